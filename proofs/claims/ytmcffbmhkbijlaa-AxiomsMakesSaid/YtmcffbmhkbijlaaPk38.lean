
/-
  rotaref.OfFree.
-/
import Derived.Test.YtmcffbmhkbijlaaPk44
namespace Go.Proofs.Ytmcffbmhkbijlaa
open Go.RowKit
set_option linter.unusedVariables false

/-- a matroid whose bases lie in a row of the call's own, and whether it is one -/
def MatB (B : Nat) (n : Int) (xs : List Int) (b : Bool) (v : Value) (w : World) : Prop := ∃ ad cp, v = .tuple #[.agg #[.int .i64 n, .slice ad xs.length cp], .bool b] ∧ Own B w ad cp xs
theorem MatB.no {B : Nat} {w : World} : MatB B 0 [] false (.tuple #[.agg #[.int .i64 0, .slice none 0 0], .bool false]) w := ⟨none, 0, rfl, Own.nil _ _⟩
theorem all_ix {l : List Nat} {Q : Nat → Prop} : (∀ a, a ∈ l → Q a) ↔ ∀ i, i < l.length → Q (l.getD i 0) := by
  constructor
  · intro h i hi; exact h _ (mem_getDN.2 ⟨i, hi, rfl⟩)
  · intro h a ha
    obtain ⟨i, hi, rfl⟩ := mem_getDN.1 ha
    exact h i hi
/-- what rotaref.OfFree asks of one set -/
def FrOk (n : Nat) (L : List Nat) (a : Nat) : Prop := (∀ k, k < n → a.testBit k = true → nand a (bit k) ∈ L) ∧ ∀ j, j < L.length → sz (L.getD j 0) = sz a + 1 → ∃ k, k < n ∧ (nand (L.getD j 0) a).testBit k = true ∧ a ||| bit k ∈ L
theorem free_iff {n : Nat} {L : List Nat} (hn : n ≤ 8) (hlt : ∀ b, b ∈ L → b < bit n) : IndAx n (memB L) ↔ 0 ∈ L ∧ ∀ i, i < L.length → FrOk n L (L.getD i 0) := by
  rw [← all_ix (Q := FrOk n L)]
  constructor
  · intro h
    refine ⟨memB_iff.1 h.zero, fun a ha => ⟨fun k hk hb => memB_iff.1 (h.down a k (hlt a ha) hb (memB_iff.2 ha)), fun j hj hz => ?_⟩⟩
    have hjm : L.getD j 0 ∈ L := mem_getDN.2 ⟨j, hj, rfl⟩
    obtain ⟨k, k1, k2, k3⟩ := h.up a _ (hlt a ha) (hlt _ hjm) (memB_iff.2 ha) (memB_iff.2 hjm) hz
    exact ⟨k, bitM_in (hlt _ hjm) k1, by rw [nand_testBit, k1, k2]; rfl, memB_iff.1 k3⟩
  · rintro ⟨h0, h⟩
    refine ⟨hn, memB_iff.2 h0, fun s i hs hi hP => memB_iff.2 ((h s (memB_iff.1 hP)).1 i (bitM_in hs hi) hi), fun s t hs ht h1 h2 hz => ?_⟩
    obtain ⟨j, hj, rfl⟩ := mem_getDN.1 (memB_iff.1 h2)
    obtain ⟨k, k1, k2, k3⟩ := (h s (memB_iff.1 h1)).2 j hj hz
    rw [nand_testBit, Bool.and_eq_true, Bool.not_eq_true'] at k2
    exact ⟨k, k2.1, k2.2, memB_iff.2 k3⟩
theorem sub_leq_nand (y x : Nat) : nand y x ≤ y := by
  have h : nand y x ||| y = y := or_sub (fun i hi => by rw [nand_testBit] at hi; simp at hi; exact hi.1)
  have h2 : nand y x ≤ nand y x ||| y := Nat.left_le_or
  rwa [h] at h2
theorem sub_bitF : ∀ s : Fin 256, ∀ k : Fin 8, s.val.testBit k.val = true → nand s.val (bit k.val) + bit k.val = s.val := by decide +kernel
theorem sub_bit {s k : Nat} (hs : s < 256) (hk : k < 8) (h : s.testBit k = true) : (s : Int) - (bit k : Int) = ((nand s (bit k) : Nat) : Int) := by
  have := sub_bitF ⟨s, hs⟩ ⟨k, hk⟩ h
  change nand s (bit k) + bit k = s at this
  omega

set_option maxRecDepth 100000 in
set_option maxHeartbeats 16000000 in
theorem c_refOfFree {B : Nat} {W : World} (u : Later B W) (n : Nat) (hn : n ≤ 8) (L : List Nat) (hl : L = those n (memB L)) (a : Option Addr) (cap : Nat) (h : IntsAt B W a (ints L)) (ok : Bool) (hok : ok = true ↔ IndAx n (memB L)) :
    Calls Try.prog 10 #[.int .i64 n, .slice a L.length cap] u.val (RetP B W (MatB B (mdN ok n) (mdX ok (big n (memB L))) ok)) := by
  have hB := u.size
  have hlt : ∀ b, b ∈ L → b < bit n := fun b hb => by rw [hl] at hb; exact (mem_those.1 hb).1
  have hL256 : L.length ≤ 256 := by
    have h1 := thoseTo_len (memB L) (bit n)
    have h2 := bit_le n hn
    have h3 : those n (memB L) = thoseTo (memB L) (bit n) := rfl
    rw [hl, h3]; omega
  have X4 : Hid (RowL (u.val.alloc (.cells #[.int .i64 0, .slice none 0 0] 29)) u.val.heap.size 29 [.int .i64 0, .slice none 0 0]) := Lib.hid (RowL.new _ _ _)
  have HVY : Hid (∀ v : Later (u.val.alloc (.cells #[.int .i64 0, .slice none 0 0] 29)).heap.size (u.val.alloc (.cells #[.int .i64 0, .slice none 0 0] 29)), ∃ w : Later B W, w.val = v.val) := Lib.hid (fun v => ⟨(u.alloc _).up v, rfl⟩)
  have HI : Hid (IntsAt (u.val.alloc (.cells #[.int .i64 0, .slice none 0 0] 29)).heap.size (u.val.alloc (.cells #[.int .i64 0, .slice none 0 0] 29)) a (ints L)) := Lib.hid (h.to (u.alloc _))
  have hYs : (u.val.alloc (.cells #[.int .i64 0, .slice none 0 0] 29)).heap.size = u.val.heap.size + 1 := by simp
  have hil : Hid ((ints L).length = L.length) := Lib.hid (ints_len L)
  have KH : Hid (∀ (w : Later (u.val.alloc (.cells #[.int .i64 0, .slice none 0 0] 29)).heap.size (u.val.alloc (.cells #[.int .i64 0, .slice none 0 0] 29))) (s : Nat), Calls Try.prog 35 #[.slice a L.length cap, .int .i64 s] w.val (Ret (u.val.alloc (.cells #[.int .i64 0, .slice none 0 0] 29)).heap.size (u.val.alloc (.cells #[.int .i64 0, .slice none 0 0] 29)) (.bool (decide (s ∈ L))))) := Lib.hid (fun w s => by
    have h1 := c_has w (ints L) (s : Int) a cap HI.out (by rw [hil.out]; omega)
    rwa [show decide ((s : Int) ∈ ints L) = decide (s ∈ L) by simp only [mem_ints], hil.out] at h1)
  have KIn : Hid (∀ (w : Later (u.val.alloc (.cells #[.int .i64 0, .slice none 0 0] 29)).heap.size (u.val.alloc (.cells #[.int .i64 0, .slice none 0 0] 29))) (s i : Nat), s < 256 → i < 8 → Calls Try.prog 36 #[.int .i64 s, .int .i64 i] w.val (Ret (u.val.alloc (.cells #[.int .i64 0, .slice none 0 0] 29)).heap.size (u.val.alloc (.cells #[.int .i64 0, .slice none 0 0] 29)) (.bool (s.testBit i)))) := Lib.hid (fun w s i hs hi => c_in w s i (by omega) (by omega))
  have KSz : Hid (∀ (w : Later (u.val.alloc (.cells #[.int .i64 0, .slice none 0 0] 29)).heap.size (u.val.alloc (.cells #[.int .i64 0, .slice none 0 0] 29))) (s : Nat), s < 256 → Calls Try.prog 37 #[.int .i64 s] w.val (Ret (u.val.alloc (.cells #[.int .i64 0, .slice none 0 0] 29)).heap.size (u.val.alloc (.cells #[.int .i64 0, .slice none 0 0] 29)) (.int .i64 (sz s)))) := Lib.hid (fun w s hs => c_size w s hs)
  have KBg : Hid (∀ w : Later (u.val.alloc (.cells #[.int .i64 0, .slice none 0 0] 29)).heap.size (u.val.alloc (.cells #[.int .i64 0, .slice none 0 0] 29)), Calls Try.prog 38 #[.slice a L.length cap] w.val (RetOwn w.val.heap.size w.val (ints (big n (memB L))))) := Lib.hid (fun w => by
    have h1 := c_biggest_own (Later.self w.val) L a cap (HI.out.to w) (by omega) (fun s hs => nat8 hn (hlt s hs))
    rw [hil.out] at h1
    have e : biggest L = big n (memB L) := by unfold big; rw [← hl]
    rw [e] at h1
    exact h1)
  have H8 : Hid (∀ k, k < L.length → L.getD k 0 < 256) := Lib.hid (fun k hk => nat8 hn (hlt _ (by simp [hk])))
  have HAx : Hid (ok = true ↔ 0 ∈ L ∧ ∀ i, i < L.length → FrOk n L (L.getD i 0)) := Lib.hid (hok.trans (free_iff hn hlt))
  clear h hok hlt hl
  obtain ⟨G, hG⟩ : ∃ G, G = big n (memB L) := ⟨_, rfl⟩
  rw [← hG] at KBg ⊢
  clear hG
  go_enter Try.func10, Try.ntmps10
  go_upto_region 1 with fail
  generalize hgu : u.val.heap.size = gu at *
  clear hgu
  generalize (u.val.alloc (.cells #[.int .i64 0, .slice none 0 0] 29)) = Y at *
  have hg4 : gu < Y.heap.size := by omega
  have f0 : ∀ (w : Later Y.heap.size Y), w.val.cell? ⟨gu, 0, none⟩ = some (.int .i64 0) := fun w => (X4.out.keep_at w.below hg4).cell rfl
  have z0 : ∀ (w : Later Y.heap.size Y), w.val.frozen? ⟨gu, 0, none⟩ = false := fun w => (X4.out.keep_at w.below hg4).fz 0
  have f1 : ∀ (w : Later Y.heap.size Y) (x0 : Value), (w.val.setCell ⟨gu, 0, none⟩ x0).cell? ⟨gu, 1, none⟩ = some (.slice none 0 0) := fun w x0 => ((X4.out.keep_at w.below hg4).set 0 x0).cell rfl
  have z1 : ∀ (w : Later Y.heap.size Y) (x0 : Value), (w.val.setCell ⟨gu, 0, none⟩ x0).frozen? ⟨gu, 1, none⟩ = false := fun w x0 => ((X4.out.keep_at w.below hg4).set 0 x0).fz 1
  have HNo : Hid (ok = false → ∀ v1 : Later Y.heap.size Y, RetP B W (MatB B (mdN ok n) (mdX ok G) ok) (.returned (.tuple #[.agg #[.int .i64 0, .slice none 0 0], .bool false])) ((v1.val.setCell ⟨gu, 0, none⟩ (.int .i64 0)).setCell ⟨gu, 1, none⟩ (.slice none 0 0))) := Lib.hid (fun hok v1 => by
    subst hok
    obtain ⟨y1, hy1⟩ := later_set (HVY.out v1) (g := gu) (i := 0) (by omega) (.int .i64 0)
    obtain ⟨y2, hy2⟩ := later_set ⟨y1, hy1⟩ (g := gu) (i := 1) (by omega) (.slice none 0 0)
    exact RetP.of ⟨y2, hy2⟩ MatB.no)
  obtain ⟨y, hy⟩ : ∃ y : Later Y.heap.size Y, y.val = Y := ⟨Later.self _, rfl⟩
  rw [← hy]
  clear hy u
  have K0 := Lib.hid (KH.out y 0)
  rw [show ((0 : Nat) : Int) = 0 from rfl] at K0
  by_cases h0 : 0 ∈ L
  case neg =>
    rw [decide_eq_false h0] at K0
    have hokf : Hid (ok = false) := Lib.hid (by
      cases hk : ok
      · rfl
      · exact absurd (HAx.out.1 hk).1 h0)
    clear h0
    go_wp2_with (first | (go_at_call 35; (with_reducible refine (K0.out).mono ?_); rintro e _ ⟨rfl, v1, rfl⟩) | fail)
    refine bodyPost_ret (results_row (vs := [.int .i64 0, .slice none 0 0]) rfl _ _ gu rfl (((X4.out.keep v1.below).set 0 _).set 1 _) Try.underlying29 (by kernel_rfl)) rfl ?_
    exact HNo.out hokf.out v1
  rw [decide_eq_true h0] at K0
  have HAx2 : Hid (ok = true ↔ ∀ i, i < L.length → FrOk n L (L.getD i 0)) := Lib.hid (HAx.out.trans ⟨fun x => x.2, fun x => ⟨h0, x⟩⟩)
  clear h0 HAx
  go_upto_region 3 with (first | (go_at_call 35; (with_reducible refine (K0.out).mono ?_); rintro e _ ⟨rfl, v1, rfl⟩) | fail)
  clear K0
  go_wp2
  go_loopw [6] (fun iv wr => ∃ (i : Nat) (v : Later Y.heap.size Y), i ≤ L.length ∧ iv = .int .i64 i ∧ wr = v.val ∧ Hid (∀ i', i' < i → FrOk n L (L.getD i' 0))) (fun iv _ => L.length - (intOf iv).toNat)
  case atStart => exact ⟨0, v1, by omega, rfl, rfl, Lib.hid (fun i hi => by omega)⟩
  case round =>
    clear v1 y
    obtain ⟨i, v, hi, rfl, rfl, HI1⟩ := hrel
    by_cases hlt : i < L.length
    · obtain ⟨b, off, rfl, hbB, hcell⟩ := HI.out.at (k := i) (by rw [hil.out]; exact hlt)
      have HC : Hid (∀ (w : Later Y.heap.size Y) (k : Nat), k < L.length → w.val.cell? ⟨b, off + k, none⟩ = some (.int .i64 ((L.getD k 0 : Nat) : Int))) := Lib.hid (fun w k hk => by rw [← ints_getD]; exact hcell w k (by rw [hil.out]; exact hk))
      have ci : ∀ w : Later Y.heap.size Y, w.val.cell? ⟨b, off + i, none⟩ = some (.int .i64 ((L.getD i 0 : Nat) : Int)) := fun w => HC.out w i hlt
      have hx8 := H8.out i hlt
      have HFi : Hid (∀ q : Nat, q = L.getD i 0 → (FrOk n L q → ∀ i', i' < i + 1 → FrOk n L (L.getD i' 0)) ∧ (¬ FrOk n L q → ok = false)) := Lib.hid (fun q hq => ⟨fun hF i' hi' => by
        by_cases e : i' = i
        · subst e; rw [← hq]; exact hF
        · exact HI1.out i' (by omega), fun hF => by
          cases hk : ok
          · rfl
          · exact absurd (by rw [hq]; exact HAx2.out.1 hk i hlt) hF⟩)
      clear hcell HI1 HAx2
      obtain ⟨x, hx⟩ : ∃ x, x = L.getD i 0 := ⟨_, rfl⟩
      have HFx := Lib.hid (HFi.out x hx)
      have Hx := Lib.hid hx
      rw [← hx] at ci hx8
      clear hx HFi
      go_wp2
      go_loopw [7] (fun kv wr => ∃ (k : Nat) (v : Later Y.heap.size Y), k ≤ n ∧ kv = .int .i64 k ∧ wr = v.val ∧ Hid (∀ k', k' < k → x.testBit k' = true → nand x (bit k') ∈ L)) (fun kv _ => n - (intOf kv).toNat)
      case atStart => exact ⟨0, v, by omega, rfl, rfl, Lib.hid (fun k hk => by omega)⟩
      case round =>
        clear v
        obtain ⟨k, v, hk, rfl, rfl, HK1⟩ := hrel
        by_cases hltk : k < n
        · have K1 := Lib.hid (fun w : Later Y.heap.size Y => KIn.out w x k hx8 (by omega))
          have hbk := bit_lt k (by omega)
          have bk := bit_cast k
          have w1 := IntWalk.i64_in (bit k : Int) (by omega)
          go_upto_region 9 with fail
          rcases btf (x.testBit k) with g1 | g1
          · rw [g1] at K1
            have hsb := sub_bit hx8 (by omega) g1
            have w2 : IntKind.i64.wrap ((x : Int) - (bit k : Int)) = ((nand x (bit k) : Nat) : Int) := by rw [hsb]; exact IntWalk.i64_in _ (by have := nand_bit_lt hx8 (show k < 8 by omega) g1; omega)
            have K2 := Lib.hid (fun w : Later Y.heap.size Y => KH.out w (nand x (bit k)))
            by_cases hmem : nand x (bit k) ∈ L
            · rw [decide_eq_true hmem] at K2
              have HN : Hid (∀ k', k' < k + 1 → x.testBit k' = true → nand x (bit k') ∈ L) := Lib.hid (fun k' hk' hb => by
                by_cases e : k' = k
                · subst e; exact hmem
                · exact HK1.out k' (by omega) hb)
              clear hsb g1 hmem HK1
              generalize nand x (bit k) = t at *
              refine wp_region_later v (by kernel_rfl) (by kernel_rfl) (fun _ => ?_)
              repeat (first | go_big_quiet_step ((first | (go_at_call 36; exact (K1.out _)) | (go_at_call 35; exact (K2.out _)))) | (refine wpQuiet_step (fun K hK => ?_); go_simp; refine ⟨_, fun _ => rfl, ?_⟩; refine hK _ ?_; clear hK K))
              refine wpQuiet_nil ?_
              intro v
              go_wp2
              go_roundw
              case rel => exact ⟨k + 1, v, by omega, by go_num, by first | rfl | trivial, HN⟩
              case measure => simp [intOf]; omega
            · rw [decide_eq_false hmem] at K2
              have hokf : Hid (ok = false) := Lib.hid (HFx.out.2 (fun c => hmem (c.1 k hltk g1)))
              clear hsb g1 hmem HK1
              generalize nand x (bit k) = t at *
              refine wp_region_later v (by kernel_rfl) (by kernel_rfl) (fun _ => ?_)
              repeat (first | go_big_quiet_step ((first | (go_at_call 36; exact (K1.out _)) | (go_at_call 35; exact (K2.out _)))) | (refine wpQuiet_step (fun K hK => ?_); go_simp; refine ⟨_, fun _ => rfl, ?_⟩; refine hK _ ?_; clear hK K))
              refine wpQuiet_nil ?_
              intro v
              go_wp2
              refine bodyPost_ret (results_row (vs := [.int .i64 0, .slice none 0 0]) rfl _ _ gu rfl (((X4.out.keep v.below).set 0 _).set 1 _) Try.underlying29 (by kernel_rfl)) rfl ?_
              exact HNo.out hokf.out v
          · rw [g1] at K1
            have HN : Hid (∀ k', k' < k + 1 → x.testBit k' = true → nand x (bit k') ∈ L) := Lib.hid (fun k' hk' hb => by
              by_cases e : k' = k
              · subst e; rw [g1] at hb; cases hb
              · exact HK1.out k' (by omega) hb)
            clear g1 HK1
            refine wp_region_later v (by kernel_rfl) (by kernel_rfl) (fun _ => ?_)
            repeat (first | go_big_quiet_step (((go_at_call 36; exact (K1.out _)))) | (refine wpQuiet_step (fun K hK => ?_); go_simp; refine ⟨_, fun _ => rfl, ?_⟩; refine hK _ ?_; clear hK K))
            refine wpQuiet_nil ?_
            intro v
            go_wp2
            go_roundw
            case rel => exact ⟨k + 1, v, by omega, by go_num, by first | rfl | trivial, HN⟩
            case measure => simp [intOf]; omega
        · have hke : k = n := by omega
          subst hke
          clear hltk hk
          go_wp2
          go_loopw [8] (fun jv wr => ∃ (j : Nat) (v : Later Y.heap.size Y), j ≤ L.length ∧ jv = .int .i64 j ∧ wr = v.val ∧ Hid (∀ j', j' < j → sz (L.getD j' 0) = sz x + 1 → ∃ q, q < k ∧ (nand (L.getD j' 0) x).testBit q = true ∧ x ||| bit q ∈ L)) (fun jv _ => L.length - (intOf jv).toNat)
          case atStart => exact ⟨0, v, by omega, rfl, rfl, Lib.hid (fun j hj => by omega)⟩
          case round =>
            clear v
            obtain ⟨j, v, hj, rfl, rfl, HJ1⟩ := hrel
            by_cases hltj : j < L.length
            · have cj : ∀ w : Later Y.heap.size Y, w.val.cell? ⟨b, off + j, none⟩ = some (.int .i64 ((L.getD j 0 : Nat) : Int)) := fun w => HC.out w j hltj
              have hy8 := H8.out j hltj
              have HJx : Hid (∀ q : Nat, q = L.getD j 0 → ((sz q = sz x + 1 → ∃ p, p < k ∧ (nand q x).testBit p = true ∧ x ||| bit p ∈ L) → ∀ j', j' < j + 1 → sz (L.getD j' 0) = sz x + 1 → ∃ p, p < k ∧ (nand (L.getD j' 0) x).testBit p = true ∧ x ||| bit p ∈ L) ∧ (sz q = sz x + 1 → (¬ ∃ p, p < k ∧ (nand q x).testBit p = true ∧ x ||| bit p ∈ L) → ok = false)) := Lib.hid (fun q hq => ⟨fun hF j' hj' hz => by
                by_cases e : j' = j
                · subst e; rw [← hq] at hz ⊢; exact hF hz
                · exact HJ1.out j' (by omega) hz, fun hz hF => HFx.out.2 (fun c => hF (by
                  have := c.2 j hltj
                  rw [← hq] at this
                  exact this hz))⟩)
              obtain ⟨y, hy⟩ : ∃ y, y = L.getD j 0 := ⟨_, rfl⟩
              have HJy := Lib.hid (HJx.out y hy)
              rw [← hy] at cj hy8
              clear hy HJx HJ1
              have hzx := sz_le x
              have hzy := sz_le y
              have w3 := IntWalk.i64_in ((sz x : Int) + 1) (by omega)
              go_upto_region 14 with fail
              by_cases hz : sz y = sz x + 1
              case neg =>
                have dz : ((sz y : Int) != (sz x : Int) + 1) = true := by rw [bne_iff_ne]; omega
                have HN := Lib.hid (HJy.out.1 (fun c => absurd c hz))
                have HZ := Lib.hid hz
                clear hz
                refine wp_region_later v (by kernel_rfl) (by kernel_rfl) (fun _ => ?_)
                repeat (first | go_big_quiet_step (((go_at_call 37; exact (KSz.out _ _ (by first | exact hx8 | exact hy8))))) | (refine wpQuiet_step (fun K hK => ?_); go_simp; refine ⟨_, fun _ => rfl, ?_⟩; refine hK _ ?_; clear hK K))
                refine wpQuiet_nil ?_
                intro v
                go_wp2
                go_roundw
                case rel => exact ⟨j + 1, v, by omega, by go_num, by first | rfl | trivial, HN⟩
                case measure => simp [intOf]; omega
              have dz : ((sz y : Int) != (sz x : Int) + 1) = false := by rw [bne_eq_false_iff_eq]; omega
              have HZ := Lib.hid hz
              clear hz
              refine wp_region_later v (by kernel_rfl) (by kernel_rfl) (fun _ => ?_)
              repeat (first | go_big_quiet_step (((go_at_call 37; exact (KSz.out _ _ (by first | exact hx8 | exact hy8))))) | (refine wpQuiet_step (fun K hK => ?_); go_simp; refine ⟨_, fun _ => rfl, ?_⟩; refine hK _ ?_; clear hK K))
              refine wpQuiet_nil ?_
              intro v
              go_wp2
              go_loopw [9, 10] (fun bv kv wr => ∃ (p : Nat) (bb : Bool) (v : Later Y.heap.size Y), p ≤ k ∧ bv = .bool bb ∧ kv = .int .i64 p ∧ wr = v.val ∧ Hid (bb = true ↔ ∃ q, q < p ∧ (nand y x).testBit q = true ∧ x ||| bit q ∈ L)) (fun _ kv _ => k - (intOf kv).toNat)
              case atStart => exact ⟨0, false, v, by omega, rfl, rfl, rfl, Lib.hid ⟨fun h => (by cases h), fun ⟨q, hq, _⟩ => by omega⟩⟩
              case round =>
                clear v
                obtain ⟨p, bb, v, hp, rfl, rfl, rfl, HB⟩ := hrel
                by_cases hltp : p < k
                · have hNB : Hid (∀ q : Bool, (q = true ↔ (bb = true ∨ ((nand y x).testBit p = true ∧ x ||| bit p ∈ L))) → (q = true ↔ ∃ q, q < p + 1 ∧ (nand y x).testBit q = true ∧ x ||| bit q ∈ L)) := Lib.hid (fun q hq => by
                    rw [hq, HB.out]
                    constructor
                    · rintro (⟨z, z1, z2⟩ | z2)
                      · exact ⟨z, by omega, z2⟩
                      · exact ⟨p, by omega, z2⟩
                    · rintro ⟨z, z1, z2⟩
                      by_cases e : z = p
                      · subst e; exact .inr z2
                      · exact .inl ⟨z, by omega, z2⟩)
                  clear HB
                  go_upto_region 19 with fail
                  cases bb
                  · have hbp := bit_lt p (by omega)
                    have bp := bit_cast p
                    have w4 := IntWalk.i64_in (bit p : Int) (by omega)
                    have o1 := i64_andNot y x (by omega) (by omega)
                    have o2 := i64_or x (bit p) (by omega) (by omega)
                    have hn8 : nand y x < 256 := Nat.lt_of_le_of_lt (sub_leq_nand y x) hy8
                    have K1 := Lib.hid (fun w : Later Y.heap.size Y => KIn.out w (nand y x) p hn8 (by omega))
                    have K2 := Lib.hid (fun w : Later Y.heap.size Y => KH.out w (x ||| bit p))
                    rcases btf ((nand y x).testBit p) with g1 | g1
                    · rw [g1] at K1
                      by_cases hmem : x ||| bit p ∈ L
                      · rw [decide_eq_true hmem] at K2
                        have HN := Lib.hid (hNB.out true ⟨fun _ => .inr ⟨g1, hmem⟩, fun _ => rfl⟩)
                        clear g1 hmem hNB
                        refine wp_region_later v (by kernel_rfl) (by kernel_rfl) (fun _ => ?_)
                        repeat (first | go_big_quiet_step ((first | (go_at_call 36; exact (K1.out _)) | (go_at_call 35; exact (K2.out _)))) | (refine wpQuiet_step (fun K hK => ?_); go_simp; refine ⟨_, fun _ => rfl, ?_⟩; refine hK _ ?_; clear hK K))
                        refine wpQuiet_nil ?_
                        intro v
                        go_wp2
                        go_roundw
                        case rel => exact ⟨p + 1, true, v, by omega, rfl, by go_num, by first | rfl | trivial, HN⟩
                        case measure => simp [intOf]; omega
                      · rw [decide_eq_false hmem] at K2
                        have HN := Lib.hid (hNB.out false ⟨fun c => (by cases c), fun c => c.elim (fun h => by cases h) (fun h => absurd h.2 hmem)⟩)
                        clear g1 hmem hNB
                        refine wp_region_later v (by kernel_rfl) (by kernel_rfl) (fun _ => ?_)
                        repeat (first | go_big_quiet_step ((first | (go_at_call 36; exact (K1.out _)) | (go_at_call 35; exact (K2.out _)))) | (refine wpQuiet_step (fun K hK => ?_); go_simp; refine ⟨_, fun _ => rfl, ?_⟩; refine hK _ ?_; clear hK K))
                        refine wpQuiet_nil ?_
                        intro v
                        go_wp2
                        go_roundw
                        case rel => exact ⟨p + 1, false, v, by omega, rfl, by go_num, by first | rfl | trivial, HN⟩
                        case measure => simp [intOf]; omega
                    · rw [g1] at K1
                      have HN := Lib.hid (hNB.out false ⟨fun c => (by cases c), fun c => c.elim (fun h => by cases h) (fun h => by rw [g1] at h; cases h.1)⟩)
                      clear g1 hNB
                      refine wp_region_later v (by kernel_rfl) (by kernel_rfl) (fun _ => ?_)
                      repeat (first | go_big_quiet_step (((go_at_call 36; exact (K1.out _)))) | (refine wpQuiet_step (fun K hK => ?_); go_simp; refine ⟨_, fun _ => rfl, ?_⟩; refine hK _ ?_; clear hK K))
                      refine wpQuiet_nil ?_
                      intro v
                      go_wp2
                      go_roundw
                      case rel => exact ⟨p + 1, false, v, by omega, rfl, by go_num, by first | rfl | trivial, HN⟩
                      case measure => simp [intOf]; omega
                  · have HN := Lib.hid (hNB.out true ⟨fun _ => .inl rfl, fun _ => rfl⟩)
                    clear hNB
                    refine wp_region_later v (by kernel_rfl) (by kernel_rfl) (fun _ => ?_)
                    repeat (first | go_big_quiet_step ((fail)) | (refine wpQuiet_step (fun K hK => ?_); go_simp; refine ⟨_, fun _ => rfl, ?_⟩; refine hK _ ?_; clear hK K))
                    refine wpQuiet_nil ?_
                    intro v
                    go_wp2
                    go_roundw
                    case rel => exact ⟨p + 1, true, v, by omega, rfl, by go_num, by first | rfl | trivial, HN⟩
                    case measure => simp [intOf]; omega
                · have hpe : p = k := by omega
                  subst hpe
                  cases bb
                  · have hokf : Hid (ok = false) := Lib.hid (HJy.out.2 HZ.out (fun c => by have := HB.out.2 c; cases this))
                    clear HB
                    go_wp2
                    refine bodyPost_ret (results_row (vs := [.int .i64 0, .slice none 0 0]) rfl _ _ gu rfl (((X4.out.keep v.below).set 0 _).set 1 _) Try.underlying29 (by kernel_rfl)) rfl ?_
                    exact HNo.out hokf.out v
                  · have HN := Lib.hid (HJy.out.1 (fun _ => HB.out.1 rfl))
                    clear HB
                    go_wp2
                    go_roundw
                    case rel => exact ⟨j + 1, v, by omega, by go_num, by first | rfl | trivial, HN⟩
                    case measure => simp [intOf]; omega
            · have hje : j = L.length := by omega
              have HN := Lib.hid (HFx.out.1 ⟨HK1.out, fun j' hj' hz => HJ1.out j' (by omega) hz⟩)
              subst hje
              clear HJ1
              go_wp2
              go_roundw
              case rel => exact ⟨i + 1, v, by omega, by go_num, by first | rfl | trivial, HN⟩
              case measure => simp [intOf]; omega
    · have hie : i = L.length := by omega
      subst hie
      have hokt : ok = true := HAx2.out.2 HI1.out
      subst hokt
      have K1 := Lib.hid (KBg.out v)
      clear hlt hi HI1 KH KIn KSz
      have r0 := f0 v
      have r1 := z0 v
      go_wp2_with (first | (go_at_call 38; (with_reducible refine (K1.out).mono ?_); rintro e _ ⟨_, rfl, ⟨ad, cp, rfl, hO⟩, v2, rfl⟩; have HO := Lib.hid hO; clear hO; have r0 : v2.val.cell? ⟨gu, 0, none⟩ = some (.int .i64 0) := f0 (v.up v2); have r1 : v2.val.frozen? ⟨gu, 0, none⟩ = false := z0 (v.up v2); have r2 : ∀ x : Value, (v2.val.setCell ⟨gu, 0, none⟩ x).cell? ⟨gu, 1, none⟩ = some (.slice none 0 0) := f1 (v.up v2); have r3 : ∀ x : Value, (v2.val.setCell ⟨gu, 0, none⟩ x).frozen? ⟨gu, 1, none⟩ = false := z1 (v.up v2)) | fail)
      refine bodyPost_ret (results_row (vs := [.int .i64 n, .slice ad (ints G).length cp]) rfl _ _ gu rfl (((X4.out.keep (v.up v2).below).set 0 _).set 1 _) Try.underlying29 (by kernel_rfl)) rfl ?_
      obtain ⟨y1, hy1⟩ := later_set (HVY.out (v.up v2)) (g := gu) (i := 0) (by omega) (.int .i64 n)
      obtain ⟨y2, hy2⟩ := later_set ⟨y1, hy1⟩ (g := gu) (i := 1) (by omega) (.slice ad (ints G).length cp)
      have hvs := v.size
      exact RetP.of ⟨y2, hy2⟩ ⟨ad, cp, rfl, ((HO.out.set (by omega) _).set (by omega) _).mono (by omega)⟩
end Go.Proofs.Ytmcffbmhkbijlaa
