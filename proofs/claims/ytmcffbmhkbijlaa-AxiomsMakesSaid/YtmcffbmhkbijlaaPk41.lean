
/-
  rotaref.OfFlats.
-/
import Derived.Test.YtmcffbmhkbijlaaPk33
namespace Go.Proofs.Ytmcffbmhkbijlaa
open Go.RowKit
set_option linter.unusedVariables false

def FiOk (n : Nat) (L : List Nat) (a : Nat) : Prop := (∀ j, j < L.length → a &&& L.getD j 0 ∈ L) ∧ CovOk n L a
theorem F_iff {n : Nat} {L : List Nat} : FAx n L ↔ bit n - 1 ∈ L ∧ ∀ i, i < L.length → FiOk n L (L.getD i 0) := by
  constructor
  · intro h
    refine ⟨h.all, fun i hi => ⟨fun j hj => h.inter _ (mem_getDN.2 ⟨i, hi, rfl⟩) _ (mem_getDN.2 ⟨j, hj, rfl⟩), h.cov _ (mem_getDN.2 ⟨i, hi, rfl⟩)⟩⟩
  · rintro ⟨h0, h⟩
    refine ⟨h0, fun a ha b hb => ?_, fun a ha => ?_⟩
    · obtain ⟨i, hi, rfl⟩ := mem_getDN.1 ha
      obtain ⟨j, hj, rfl⟩ := mem_getDN.1 hb
      exact (h i hi).1 j hj
    · obtain ⟨i, hi, rfl⟩ := mem_getDN.1 ha
      exact (h i hi).2
def abvTo (L : List Nat) (a j : Nat) : List Nat := (L.take j).filter (fun x => decide (a ≠ x ∧ a ||| x = x))
theorem abvTo_step (L : List Nat) (a : Nat) {k : Nat} (hk : k < L.length) : abvTo L a (k + 1) = if a ≠ L.getD k 0 ∧ a ||| L.getD k 0 = L.getD k 0 then abvTo L a k ++ [L.getD k 0] else abvTo L a k := by
  unfold abvTo
  rw [List.take_add_one, List.getElem?_eq_getElem hk, List.filter_append]
  have : L.getD k 0 = L[k] := by simp [hk]
  rw [this]
  by_cases h : a ≠ L[k] ∧ a ||| L[k] = L[k]
  · rw [if_pos h]
    simp only [Option.toList_some, List.filter_cons, List.filter_nil, decide_eq_true h, if_true]
  · rw [if_neg h]
    simp only [Option.toList_some, List.filter_cons, List.filter_nil, decide_eq_false h]
    simp
theorem abvTo_all (L : List Nat) (a : Nat) : abvTo L a L.length = abv L a := by unfold abvTo abv; rw [List.take_length]
theorem abvTo_len (L : List Nat) (a k : Nat) : (abvTo L a k).length ≤ L.length := by
  unfold abvTo
  have h1 := List.length_filter_le (fun x => decide (a ≠ x ∧ a ||| x = x)) (L.take k)
  have h2 := List.length_take_le k L
  have h3 : (L.take k).length ≤ L.length := by simp; omega
  omega
theorem ht_small {L : List Nat} {A : Nat → Nat} (hA : HtIs L A) : ∀ i, i < L.length → A i ≤ i := by
  intro i
  induction i using Nat.strongRecOn with
  | ind i ih =>
  intro hi
  rw [hA i hi]
  refine mxT_le (fun j hj => ?_)
  split
  · have := ih j hj (by omega); omega
  · omega
/-- what the table of heights holds underway -/
def htG (L : List Nat) (A : Nat → Nat) (i j : Nat) : Nat := if L.getD j 0 ||| L.getD i 0 = L.getD i 0 then A j + 1 else 0
def htT (L : List Nat) (A : Nat → Nat) (i k t : Nat) : Int := if t < i then (A t : Int) else if t = i then (mxT (htG L A i) k : Int) else 0
def rT (f : Nat → Int) (s t : Nat) : Int := if t < s then f t else 0
theorem RAx.congr {n : Nat} {f g : Nat → Int} (h : ∀ s, s < bit n → f s = g s) : RAx n f → RAx n g := fun H =>
  ⟨by rw [← h 0 (bitM_pos n)]; exact H.zero, fun s hs i hi => by
    rw [← h s hs, ← h _ (orM_lt hs (bit_lt_bit hi))]; exact H.step s hs i hi, fun s hs i hi k hk => by
    have h1 := orM_lt hs (bit_lt_bit hi)
    have h2 := orM_lt hs (bit_lt_bit hk)
    rw [← h _ h1, ← h _ h2, ← h _ (orM_lt h1 h2), ← h _ (Nat.lt_of_le_of_lt Nat.and_le_left h1)]; exact H.subm s hs i hi k hk⟩
theorem PR_tab {n : Nat} {f g : Nat → Int} (h : ∀ s, s < bit n → f s = g s) : big n (PR f) = big n (PR g) := big_congr (fun s hs => by unfold PR; rw [h s hs])

set_option maxRecDepth 100000 in
set_option maxHeartbeats 40000000 in
theorem c_refOfFlats {B : Nat} {W : World} (u : Later B W) (n : Nat) (hn : n ≤ 8) (L : List Nat) (hl : L = those n (memB L)) (A : Nat → Nat) (hA : HtIs L A) (a : Option Addr) (cap : Nat) (h : IntsAt B W a (ints L)) (ok : Bool) (hok : ok = true ↔ FAx n L ∧ RAx n (rkA n L A)) :
    Calls Try.prog 12 #[.int .i64 n, .slice a L.length cap] u.val (RetP B W (MatB B (mdN ok n) (mdX ok (big n (PR (rkA n L A)))) ok)) := by
  have hB := u.size
  have hlt : ∀ b, b ∈ L → b < bit n := fun b hb => by rw [hl] at hb; exact (mem_those.1 hb).1
  have hbn := bit_le n hn
  have hL256 : L.length ≤ 256 := by
    have h1 := thoseTo_len (memB L) (bit n)
    have h3 : those n (memB L) = thoseTo (memB L) (bit n) := rfl
    rw [hl, h3]; omega
  have X4 : Hid (RowL (u.val.alloc (.cells #[.int .i64 0, .slice none 0 0] 29)) u.val.heap.size 29 [.int .i64 0, .slice none 0 0]) := Lib.hid (RowL.new _ _ _)
  have HVY : Hid (∀ v : Later (u.val.alloc (.cells #[.int .i64 0, .slice none 0 0] 29)).heap.size (u.val.alloc (.cells #[.int .i64 0, .slice none 0 0] 29)), ∃ w : Later B W, w.val = v.val) := Lib.hid (fun v => ⟨(u.alloc _).up v, rfl⟩)
  have HI : Hid (IntsAt (u.val.alloc (.cells #[.int .i64 0, .slice none 0 0] 29)).heap.size (u.val.alloc (.cells #[.int .i64 0, .slice none 0 0] 29)) a (ints L)) := Lib.hid (h.to (u.alloc _))
  have hYs : (u.val.alloc (.cells #[.int .i64 0, .slice none 0 0] 29)).heap.size = u.val.heap.size + 1 := by simp
  have hil : Hid ((ints L).length = L.length) := Lib.hid (ints_len L)
  have KH : Hid (∀ (v : Later (u.val.alloc (.cells #[.int .i64 0, .slice none 0 0] 29)).heap.size (u.val.alloc (.cells #[.int .i64 0, .slice none 0 0] 29))) (w : Later v.val.heap.size v.val) (s : Nat), Calls Try.prog 35 #[.slice a L.length cap, .int .i64 s] w.val (Ret v.val.heap.size v.val (.bool (decide (s ∈ L))))) := Lib.hid (fun v w s => by
    have h1 := c_has w (ints L) (s : Int) a cap (HI.out.to v) (by rw [hil.out]; omega)
    rwa [show decide ((s : Int) ∈ ints L) = decide (s ∈ L) by simp only [mem_ints], hil.out] at h1)
  have KW : Hid (∀ (v : Later (u.val.alloc (.cells #[.int .i64 0, .slice none 0 0] 29)).heap.size (u.val.alloc (.cells #[.int .i64 0, .slice none 0 0] 29))) (w : Later v.val.heap.size v.val) (s t : Nat), s < 256 → t < 256 → Calls Try.prog 39 #[.int .i64 s, .int .i64 t] w.val (Ret v.val.heap.size v.val (.bool (decide (s ||| t = t))))) := Lib.hid (fun v w s t hs ht => c_within w s t (by omega) (by omega))
  have KA : Hid (∀ (V : World) (w : Later V.heap.size V), Calls Try.prog 17 #[.int .i64 n] w.val (Ret V.heap.size V (.int .i64 ((bit n - 1 : Nat) : Int)))) := Lib.hid (fun V w => by have := c_all w n (by omega) (by omega); rwa [all_nat] at this)
  have KL : Hid (∀ (V : World) (T : List Nat) (ad : Option Addr) (cp : Nat), (∀ b, b ∈ T → b < 256) → T.length ≤ 256 → IntsAt V.heap.size V ad (ints T) → Calls Try.prog 42 #[.int .i64 n, .slice ad (ints T).length cp] V.drew (RetP V.heap.size V (fun vv w => ∃ a2 c2, vv = .slice a2 (those n (leastB T)).length c2 ∧ IntsAt w.heap.size w a2 (ints (those n (leastB T)))))) := Lib.hid (fun V T ad cp h1 h2 h3 => (c_leastW (Later.self V).drew n hn T h1 (by omega) ad cp h3).mono (fun _ _ ⟨v, e1, ⟨a2, c2, e2, hO⟩, e4⟩ => ⟨v, e1, ⟨a2, c2, by rw [e2, ints_len], hO.reads⟩, e4⟩))
  have KR : Hid (∀ (v : Later (u.val.alloc (.cells #[.int .i64 0, .slice none 0 0] 29)).heap.size (u.val.alloc (.cells #[.int .i64 0, .slice none 0 0] 29))) (g : Nat), ITab v.val g (bit n) (rkA n L A) → FAx n L → Calls Try.prog 16 #[.int .i64 n, .slice (some ⟨g, 0, none⟩) (bit n) (bit n)] v.val (RetP v.val.heap.size v.val (MatB v.val.heap.size (mdN ok n) (mdX ok (big n (PR (rkA n L A)))) ok))) := Lib.hid (fun v g hT hF => by
    have e1 : ∀ s, s < bit n → (tabL (bit n) (rkA n L A)).getD s 0 = rkA n L A s := fun s hs => tabL_getD hs
    have h1 := c_refOfRanks (Later.self v.val) n hn (tabL (bit n) (rkA n L A)) (tabL_len _ _) (some ⟨g, 0, none⟩) (bit n) hT.ints ok (by
      rw [hok]
      exact ⟨fun c => RAx.congr (fun s hs => (e1 s hs).symm) c.2, fun c => ⟨hF, RAx.congr e1 c⟩⟩)
    rw [tabL_len, PR_tab e1] at h1
    exact h1)
  have H8 : Hid (∀ k, k < L.length → L.getD k 0 < 256) := Lib.hid (fun k hk => nat8 hn (hlt _ (by simp [hk])))
  have HLn : Hid (∀ k, k < L.length → L.getD k 0 < bit n) := Lib.hid (fun k hk => hlt _ (by simp [hk]))
  have HT8 : Hid (∀ x k, ∀ b, b ∈ abvTo L x k → b < 256) := Lib.hid (fun x k b hb => nat8 hn (hlt b (List.mem_of_mem_take (List.mem_filter.1 hb).1)))
  have HA8 := Lib.hid (ht_small hA)
  have HAx2 : Hid ((ok = true → bit n - 1 ∈ L ∧ ∀ i, i < L.length → FiOk n L (L.getD i 0)) ∧ (bit n - 1 ∈ L → (∀ i, i < L.length → FiOk n L (L.getD i 0)) → FAx n L)) := Lib.hid ⟨fun c => F_iff.1 (hok.1 c).1, fun c1 c2 => F_iff.2 ⟨c1, c2⟩⟩
  have HHt := Lib.hid hA
  clear h hok hlt hl hA
  obtain ⟨G, hG⟩ : ∃ G, G = big n (PR (rkA n L A)) := ⟨_, rfl⟩
  rw [← hG] at KR ⊢
  clear hG
  go_enter Try.func12, Try.ntmps12
  go_upto_region 1 with fail
  generalize hgu : u.val.heap.size = gu at *
  clear hgu
  generalize (u.val.alloc (.cells #[.int .i64 0, .slice none 0 0] 29)) = Y at *
  have hg4 : gu < Y.heap.size := by omega
  have f0 : ∀ (w : Later Y.heap.size Y), w.val.cell? ⟨gu, 0, none⟩ = some (.int .i64 0) := fun w => (X4.out.keep_at w.below hg4).cell rfl
  have z0 : ∀ (w : Later Y.heap.size Y), w.val.frozen? ⟨gu, 0, none⟩ = false := fun w => (X4.out.keep_at w.below hg4).fz 0
  have f1 : ∀ (w : Later Y.heap.size Y) (x0 : Value), (w.val.setCell ⟨gu, 0, none⟩ x0).cell? ⟨gu, 1, none⟩ = some (.slice none 0 0) := fun w x0 => ((X4.out.keep_at w.below hg4).set 0 x0).cell rfl
  have z1 : ∀ (w : Later Y.heap.size Y) (x0 : Value), (w.val.setCell ⟨gu, 0, none⟩ x0).frozen? ⟨gu, 1, none⟩ = false := fun w x0 => ((X4.out.keep_at w.below hg4).set 0 x0).fz 1
  have HNo : Hid (ok = false → ∀ v1 : Later Y.heap.size Y, RetP B W (MatB B (mdN ok n) (mdX ok G) ok) (.returned (.tuple #[.agg #[.int .i64 0, .slice none 0 0], .bool false])) ((v1.val.setCell ⟨gu, 0, none⟩ (.int .i64 0)).setCell ⟨gu, 1, none⟩ (.slice none 0 0))) := Lib.hid (fun hok v1 => by
    subst hok
    obtain ⟨y1, hy1⟩ := later_set (HVY.out v1) (g := gu) (i := 0) (by omega) (.int .i64 0)
    obtain ⟨y2, hy2⟩ := later_set ⟨y1, hy1⟩ (g := gu) (i := 1) (by omega) (.slice none 0 0)
    exact RetP.of ⟨y2, hy2⟩ MatB.no)
  obtain ⟨y, hy⟩ : ∃ y : Later Y.heap.size Y, y.val = Y := ⟨Later.self _, rfl⟩
  rw [← hy]
  clear hy u
  have K0 : Hid (Calls Try.prog 17 #[.int .i64 n] y.val (Ret y.val.heap.size y.val (.int .i64 ((bit n - 1 : Nat) : Int)))) := Lib.hid (KA.out y.val (Later.self y.val))
  have K1 := Lib.hid (fun w => KH.out y w (bit n - 1))
  by_cases h0 : bit n - 1 ∈ L
  case neg =>
    rw [decide_eq_false h0] at K1
    have hokf : Hid (ok = false) := Lib.hid (by
      cases hk : ok
      · rfl
      · exact absurd (HAx2.out.1 hk).1 h0)
    clear h0
    obtain ⟨al, hal⟩ : ∃ al, al = bit n - 1 := ⟨_, rfl⟩
    rw [← hal] at K0 K1
    clear hal
    go_upto_region 2 with (first | (go_at_call 17; (with_reducible refine (K0.out).mono ?_); rintro e _ ⟨rfl, v0, rfl⟩) | (go_at_call 35; (with_reducible refine (K1.out v0).mono ?_); rintro e _ ⟨rfl, v1, rfl⟩) | fail)
    obtain ⟨v, hv⟩ : ∃ v : Later Y.heap.size Y, v.val = v1.val := ⟨y.up v1, rfl⟩
    rw [← hv]
    clear hv
    go_wp2
    refine bodyPost_ret (results_row (vs := [.int .i64 0, .slice none 0 0]) rfl _ _ gu rfl (((X4.out.keep v.below).set 0 _).set 1 _) Try.underlying29 (by kernel_rfl)) rfl ?_
    exact HNo.out hokf.out v
  rw [decide_eq_true h0] at K1
  have HAx3 : Hid ((ok = true → ∀ i, i < L.length → FiOk n L (L.getD i 0)) ∧ ((∀ i, i < L.length → FiOk n L (L.getD i 0)) → FAx n L)) := Lib.hid ⟨fun c => (HAx2.out.1 c).2, fun c => HAx2.out.2 h0 c⟩
  clear h0 HAx2
  go_upto_region 3 with (first | (go_at_call 17; (with_reducible refine (K0.out).mono ?_); rintro e _ ⟨rfl, v0, rfl⟩) | (go_at_call 35; (with_reducible refine (K1.out v0).mono ?_); rintro e _ ⟨rfl, v1, rfl⟩) | fail)
  obtain ⟨v, hv⟩ : ∃ v : Later Y.heap.size Y, v.val = v1.val := ⟨y.up v1, rfl⟩
  rw [← hv]
  clear hv v0 v1 K0 K1 y
  go_wp2
  go_loopw [6] (fun iv wr => ∃ (i : Nat) (v : Later Y.heap.size Y), i ≤ L.length ∧ iv = .int .i64 i ∧ wr = v.val ∧ Hid (∀ i', i' < i → FiOk n L (L.getD i' 0))) (fun iv _ => L.length - (intOf iv).toNat)
  case atStart => exact ⟨0, v, by omega, rfl, by first | rfl | trivial, Lib.hid (fun i hi => by omega)⟩
  case round =>
    clear v
    obtain ⟨i, v, hi, rfl, rfl, HI1⟩ := hrel
    by_cases hlt : i < L.length
    · obtain ⟨b, off, rfl, hbB, hcell⟩ := HI.out.at (k := i) (by rw [hil.out]; exact hlt)
      have HC : Hid (∀ (w : Later Y.heap.size Y) (k : Nat), k < L.length → w.val.cell? ⟨b, off + k, none⟩ = some (.int .i64 ((L.getD k 0 : Nat) : Int))) := Lib.hid (fun w k hk => by rw [← ints_getD]; exact hcell w k (by rw [hil.out]; exact hk))
      have ci : ∀ w : Later Y.heap.size Y, w.val.cell? ⟨b, off + i, none⟩ = some (.int .i64 ((L.getD i 0 : Nat) : Int)) := fun w => HC.out w i hlt
      have hx8 := H8.out i hlt
      have HFi : Hid (∀ q : Nat, q = L.getD i 0 → (FiOk n L q → ∀ i', i' < i + 1 → FiOk n L (L.getD i' 0)) ∧ (¬ FiOk n L q → ok = false)) := Lib.hid (fun q hq => ⟨fun hF i' hi' => by
        by_cases e : i' = i
        · subst e; rw [← hq]; exact hF
        · exact HI1.out i' (by omega), fun hF => by
          cases hk : ok
          · rfl
          · exact absurd (by rw [hq]; exact HAx3.out.1 hk i hlt) hF⟩)
      clear hcell HI1
      obtain ⟨x, hx⟩ : ∃ x, x = L.getD i 0 := ⟨_, rfl⟩
      have HFx := Lib.hid (HFi.out x hx)
      have HXn : Hid (x < bit n) := Lib.hid (by rw [hx]; exact HLn.out i hlt)
      rw [← hx] at ci hx8
      clear hx HFi
      go_wp2
      go_loopw [7, 8] (fun av jv wr => ∃ (j : Nat) (ad : Option Addr) (cp : Nat) (v : Later Y.heap.size Y), j ≤ L.length ∧ jv = .int .i64 j ∧ av = .slice ad (ints (abvTo L x j)).length cp ∧ wr = v.val ∧ Hid (Own Y.heap.size v.val ad cp (ints (abvTo L x j))) ∧ Hid (∀ j', j' < j → x &&& L.getD j' 0 ∈ L)) (fun _ jv _ => L.length - (intOf jv).toNat)
      case atStart => exact ⟨0, none, 0, v, by omega, rfl, rfl, by first | rfl | trivial, Lib.hid (Own.nil _ _), Lib.hid (fun k hk => by omega)⟩
      case round =>
        clear v
        obtain ⟨j, ad, cp, v, hj, rfl, rfl, rfl, HO, HJ1⟩ := hrel
        by_cases hltj : j < L.length
        · have civ : ∀ w : Later v.val.heap.size v.val, w.val.cell? ⟨b, off + i, none⟩ = some (.int .i64 (x : Int)) := fun w => ci (v.up w)
          have cjv : ∀ w : Later v.val.heap.size v.val, w.val.cell? ⟨b, off + j, none⟩ = some (.int .i64 ((L.getD j 0 : Nat) : Int)) := fun w => HC.out (v.up w) j hltj
          have hy8 := H8.out j hltj
          have HS := Lib.hid (abvTo_step L x hltj)
          have HL : Hid ((ints (abvTo L x j)).length ≤ 256) := Lib.hid (by rw [ints_len]; have := abvTo_len L x j; omega)
          have HJx : Hid (∀ q : Nat, q = L.getD j 0 → (x &&& q ∈ L → ∀ j', j' < j + 1 → x &&& L.getD j' 0 ∈ L) ∧ (¬ x &&& q ∈ L → ok = false)) := Lib.hid (fun q hq => ⟨fun hF j' hj' => by
            by_cases e : j' = j
            · subst e; rw [← hq]; exact hF
            · exact HJ1.out j' (by omega), fun hF => HFx.out.2 (fun c => hF (by rw [hq]; exact c.1 j hltj))⟩)
          obtain ⟨z, hz⟩ : ∃ z, z = L.getD j 0 := ⟨_, rfl⟩
          have HJy := Lib.hid (HJx.out z hz)
          have HOw : Hid (∀ w : Later v.val.heap.size v.val, Own Y.heap.size w.val ad cp (ints (abvTo L x j))) := Lib.hid (fun w => HO.out.keep w.below)
          rw [← hz] at cjv hy8 HS
          clear hz HJx HJ1 HO
          obtain ⟨T, hT⟩ : ∃ T, T = abvTo L x j := ⟨_, rfl⟩
          rw [← hT] at HS HL HOw ⊢
          clear hT
          obtain ⟨T2, hT2⟩ : ∃ T2, T2 = abvTo L x (j + 1) := ⟨_, rfl⟩
          rw [← hT2] at HS
          have HT2 := Lib.hid hT2
          clear hT2
          have o1 := i64_and x z (by omega) (by omega)
          have K1 := Lib.hid (fun w => KH.out v w (x &&& z))
          have K2 := Lib.hid (fun w => KW.out v w x z hx8 hy8)
          go_upto_region 10 with fail
          obtain ⟨y, hy⟩ : ∃ y : Later v.val.heap.size v.val, y.val = v.val := ⟨Later.self _, rfl⟩
          rw [← hy]
          clear hy
          by_cases hm : x &&& z ∈ L
          case neg =>
            rw [decide_eq_false hm] at K1
            have hokf : Hid (ok = false) := Lib.hid (HJy.out.2 hm)
            clear hm HS
            generalize x &&& z = m at *
            refine wp_region_later y (by kernel_rfl) (by kernel_rfl) (fun _ => ?_)
            repeat (first | go_big_quiet_step (((go_at_call 35; exact (K1.out _)))) | (refine wpQuiet_step (fun K hK => ?_); go_simp; refine ⟨_, fun _ => rfl, ?_⟩; refine hK _ ?_; clear hK K))
            refine wpQuiet_nil ?_
            intro y
            obtain ⟨v3, hv⟩ : ∃ v3 : Later Y.heap.size Y, v3.val = y.val := ⟨v.up y, rfl⟩
            rw [← hv]
            clear hv
            go_wp2
            refine bodyPost_ret (results_row (vs := [.int .i64 0, .slice none 0 0]) rfl _ _ gu rfl (((X4.out.keep v3.below).set 0 _).set 1 _) Try.underlying29 (by kernel_rfl)) rfl ?_
            exact HNo.out hokf.out v3
          rw [decide_eq_true hm] at K1
          have HN := Lib.hid (HJy.out.1 hm)
          clear hm
          generalize x &&& z = m at *
          refine wp_region_later y (by kernel_rfl) (by kernel_rfl) (fun _ => ?_)
          repeat (first | go_big_quiet_step (((go_at_call 35; exact (K1.out _)))) | (refine wpQuiet_step (fun K hK => ?_); go_simp; refine ⟨_, fun _ => rfl, ?_⟩; refine hK _ ?_; clear hK K))
          refine wpQuiet_nil ?_
          intro y
          clear K1 o1
          go_upto_region 12 with fail
          rcases ieq (x : Int) (z : Int) with ⟨g1, d1, d2⟩ | ⟨g1, d1, d2⟩
          · have HN2 : Hid (T2 = T) := Lib.hid (by rw [HS.out, if_neg (fun c => c.1 (by omega))])
            clear g1 d1 HS K2
            refine wp_region_later y (by kernel_rfl) (by kernel_rfl) (fun _ => ?_)
            repeat (first | go_big_quiet_step ((fail)) | (refine wpQuiet_step (fun K hK => ?_); go_simp; refine ⟨_, fun _ => rfl, ?_⟩; refine hK _ ?_; clear hK K))
            refine wpQuiet_nil ?_
            intro y
            go_wp2
            go_roundw
            case rel => exact ⟨j + 1, ad, cp, v.up y, by omega, by go_num, by rw [← HT2.out, HN2.out], by first | rfl | trivial, Lib.hid (by rw [← HT2.out, HN2.out]; exact HOw.out y), HN⟩
            case measure => simp [intOf]; omega
          · have G1 : Hid (x ≠ z) := Lib.hid (by omega)
            clear g1 d1
            by_cases hw : x ||| z = z
            · rw [decide_eq_true hw] at K2
              have HN2 : Hid (T2 = T ++ [z]) := Lib.hid (by rw [HS.out, if_pos ⟨G1.out, hw⟩])
              clear hw HS
              refine wp_region_later y (by kernel_rfl) (by kernel_rfl) (fun _ => ?_)
              repeat (first | go_big_quiet_step (((go_at_call 39; exact (K2.out _)))) | (refine wpQuiet_step (fun K hK => ?_); go_simp; refine ⟨_, fun _ => rfl, ?_⟩; refine hK _ ?_; clear hK K))
              refine wpQuiet_nil ?_
              intro y
              clear K2
              go_wp2_with (first | (at_builtin; refine wpList_push (B := Y.heap.size) (W := Y) (w := y.val) (v.up y).below (v.up y).size rfl _ _ rfl (ints T) ad cp (z : Int) rfl (HOw.out y) rfl (by have := HL.out; omega) ?_; intro u2 ad2 cp2 hown) | fail)
              go_roundw
              case rel => exact ⟨j + 1, ad2, cp2, u2, by omega, by go_num, by rw [← HT2.out, HN2.out, ints_snoc]; simp, by first | rfl | trivial, Lib.hid (by rw [← HT2.out, HN2.out, ints_snoc]; exact hown), HN⟩
              case measure => simp [intOf]; omega
            · rw [decide_eq_false hw] at K2
              have HN2 : Hid (T2 = T) := Lib.hid (by rw [HS.out, if_neg (fun c => hw c.2)])
              clear hw HS
              refine wp_region_later y (by kernel_rfl) (by kernel_rfl) (fun _ => ?_)
              repeat (first | go_big_quiet_step (((go_at_call 39; exact (K2.out _)))) | (refine wpQuiet_step (fun K hK => ?_); go_simp; refine ⟨_, fun _ => rfl, ?_⟩; refine hK _ ?_; clear hK K))
              refine wpQuiet_nil ?_
              intro y
              clear K2
              go_wp2
              go_roundw
              case rel => exact ⟨j + 1, ad, cp, v.up y, by omega, by go_num, by rw [← HT2.out, HN2.out], by first | rfl | trivial, Lib.hid (by rw [← HT2.out, HN2.out]; exact HOw.out y), HN⟩
              case measure => simp [intOf]; omega
        · have hje : j = L.length := by omega
          have HFJ : Hid (CovOk n L x → FiOk n L x) := Lib.hid (fun c => ⟨by rw [hje] at HJ1; exact HJ1.out, c⟩)
          have hTe : abvTo L x j = abv L x := by rw [hje, abvTo_all]
          have HT8x := Lib.hid (HT8.out x j)
          have HTl : Hid ((abvTo L x j).length ≤ 256) := Lib.hid (by have := abvTo_len L x j; omega)
          have HN0 : Hid (those n (leastB (abvTo L x j)) = nxt n L x) := Lib.hid (by rw [hTe]; rfl)
          have K1 := Lib.hid (KL.out v.val (abvTo L x j) ad cp HT8x.out HTl.out HO.out.reads)
          have N256 : (nxt n L x).length ≤ 256 := by
            have h1 := thoseTo_len (leastB (abv L x)) (bit n)
            have h3 : nxt n L x = thoseTo (leastB (abv L x)) (bit n) := rfl
            rw [h3]; omega
          have HN8 : Hid (∀ k, k < (nxt n L x).length → (nxt n L x).getD k 0 < bit n) := Lib.hid (fun k hk => (mem_those.1 (mem_getDN.2 ⟨k, hk, rfl⟩)).1)
          have hxn : x < bit n := HXn.out
          have HS8 : Hid (∀ k, k ≤ (nxt n L x).length → seenT x (nxt n L x) k < bit n) := Lib.hid (fun k => by
            induction k with
            | zero => intro _; exact hxn
            | succ k ih => intro hk; exact orM_lt (ih (by omega)) (HN8.out k (by omega)))
          have HSS : Hid (∀ k, seenT x (nxt n L x) (k + 1) = seenT x (nxt n L x) k ||| (nxt n L x).getD k 0) := Lib.hid (fun k => rfl)
          have HCv : Hid (CovOk n L x ↔ (∀ j, j < (nxt n L x).length → (nxt n L x).getD j 0 &&& seenT x (nxt n L x) j = x) ∧ seenT x (nxt n L x) (nxt n L x).length = bit n - 1) := Lib.hid Iff.rfl
          rw [HN0.out] at K1
          have HLz : Hid ((ints (abvTo L x j)).length = (ints (abvTo L x j)).length) := Lib.hid rfl
          clear hje hTe HJ1 HN0 HT8x HTl hxn HO
          generalize abvTo L x j = T at *
          obtain ⟨Nx, hNx⟩ : ∃ Nx, Nx = nxt n L x := ⟨_, rfl⟩
          rw [← hNx] at K1 HN8 HS8 HSS HCv N256
          clear hNx
          have t0 : v.val.cell? ⟨b, off + i, none⟩ = some (.int .i64 (x : Int)) := ci v
          have t1 : ∀ w : Later v.val.heap.size v.val, w.val.cell? ⟨b, off + i, none⟩ = some (.int .i64 (x : Int)) := fun w => ci (v.up w)
          go_upto_region 14 with fail
          go_region_held3 (fun w' => w'.cell? ⟨b, off + i, none⟩ = some (.int .i64 (x : Int))) (first | exact t0 | exact t1 y1 | fail) (first | (go_at_call 42; (with_reducible refine (K1.out).mono ?_); rintro e _ ⟨_, rfl, ⟨ad2, cp2, rfl, hI2⟩, y1, rfl⟩) | fail)
          have HI2 := Lib.hid hI2
          clear hI2 t0 t1 K1 HLz
          have hN2 : Hid ((ints Nx).length = Nx.length) := Lib.hid (ints_len Nx)
          go_wp2
          go_loopw [10, 11] (fun sv jv wr => ∃ (j : Nat) (z : Later y1.val.heap.size y1.val), j ≤ Nx.length ∧ sv = .int .i64 ((seenT x Nx j : Nat) : Int) ∧ jv = .int .i64 j ∧ wr = z.val ∧ Hid (∀ j', j' < j → Nx.getD j' 0 &&& seenT x Nx j' = x)) (fun _ jv _ => Nx.length - (intOf jv).toNat)
          case atStart => exact ⟨0, Later.self _, by omega, by first | rfl | trivial, rfl, by first | rfl | trivial, Lib.hid (fun k hk => by omega)⟩
          case round =>
            obtain ⟨j, z, hj, rfl, rfl, rfl, HJ⟩ := hrel
            by_cases hltj : j < Nx.length
            · obtain ⟨b2, off2, rfl, hb2, hcell2⟩ := HI2.out.at (k := j) (by rw [hN2.out]; exact hltj)
              have cn : ∀ w : Later y1.val.heap.size y1.val, w.val.cell? ⟨b2, off2 + j, none⟩ = some (.int .i64 ((Nx.getD j 0 : Nat) : Int)) := fun w => by rw [← ints_getD]; exact hcell2 w j (by rw [hN2.out]; exact hltj)
              have cx : ∀ w : Later y1.val.heap.size y1.val, w.val.cell? ⟨b, off + i, none⟩ = some (.int .i64 (x : Int)) := fun w => ci ((v.up y1).up w)
              have hq8 := HN8.out j hltj
              have hs8 := HS8.out j (by omega)
              have HSj := Lib.hid (HSS.out j)
              have HJn : Hid (Nx.getD j 0 &&& seenT x Nx j = x → ∀ j', j' < j + 1 → Nx.getD j' 0 &&& seenT x Nx j' = x) := Lib.hid (fun c j' hj' => by
                by_cases e : j' = j
                · subst e; exact c
                · exact HJ.out j' (by omega))
              have HJf : Hid (¬ (Nx.getD j 0 &&& seenT x Nx j = x) → ok = false) := Lib.hid (fun c => HFx.out.2 (fun c2 => c ((HCv.out.1 c2.2).1 j hltj)))
              clear hcell2 HJ
              obtain ⟨sn, hsn⟩ : ∃ sn, sn = seenT x Nx (j + 1) := ⟨_, rfl⟩
              rw [← hsn] at HSj
              have HSn := Lib.hid hsn
              clear hsn
              generalize Nx.getD j 0 = q at *
              generalize seenT x Nx j = se at *
              have o1 := i64_and q se (by omega) (by omega)
              have o2 := i64_or se q (by omega) (by omega)
              go_upto_region 18 with fail
              rcases ieq ((q &&& se : Nat) : Int) (x : Int) with ⟨g1, d1, d2⟩ | ⟨g1, d1, d2⟩
              · have HNj := Lib.hid (HJn.out (by omega))
                clear g1 d1 hq8 hs8 HJn HJf
                generalize q &&& se = an at *
                refine wp_region_later z (by kernel_rfl) (by kernel_rfl) (fun _ => ?_)
                repeat (first | go_big_quiet_step ((fail)) | (refine wpQuiet_step (fun K hK => ?_); go_simp; refine ⟨_, fun _ => rfl, ?_⟩; refine hK _ ?_; clear hK K))
                refine wpQuiet_nil ?_
                intro z
                clear o1 d2
                rw [← HSj.out] at o2
                go_wp2
                go_roundw
                case rel => exact ⟨j + 1, z, by omega, by rw [← HSn.out], by go_num, by first | rfl | trivial, HNj⟩
                case measure => simp [intOf]; omega
              · have hokf : Hid (ok = false) := Lib.hid (HJf.out (by omega))
                clear g1 d1 hq8 hs8 HJn HJf o2
                generalize q &&& se = an at *
                refine wp_region_later z (by kernel_rfl) (by kernel_rfl) (fun _ => ?_)
                repeat (first | go_big_quiet_step ((fail)) | (refine wpQuiet_step (fun K hK => ?_); go_simp; refine ⟨_, fun _ => rfl, ?_⟩; refine hK _ ?_; clear hK K))
                refine wpQuiet_nil ?_
                intro z
                obtain ⟨v3, hv⟩ : ∃ v3 : Later Y.heap.size Y, v3.val = z.val := ⟨(v.up y1).up z, rfl⟩
                rw [← hv]
                clear hv
                go_wp2
                refine bodyPost_ret (results_row (vs := [.int .i64 0, .slice none 0 0]) rfl _ _ gu rfl (((X4.out.keep v3.below).set 0 _).set 1 _) Try.underlying29 (by kernel_rfl)) rfl ?_
                exact HNo.out hokf.out v3
            · have hje2 : j = Nx.length := by omega
              have HCt : Hid (seenT x Nx j = bit n - 1 → ∀ i', i' < i + 1 → FiOk n L (L.getD i' 0)) := Lib.hid (fun c => HFx.out.1 (HFJ.out (HCv.out.2 ⟨by rw [← hje2]; exact HJ.out, by rw [← hje2]; exact c⟩)))
              have HCf : Hid (¬ seenT x Nx j = bit n - 1 → ok = false) := Lib.hid (fun c => HFx.out.2 (fun c2 => c (by rw [hje2]; exact (HCv.out.1 c2.2).2)))
              clear hje2 HJ
              generalize seenT x Nx j = se at *
              go_upto_region 21 with fail
              have K2 := Lib.hid (KA.out y1.val)
              rcases ieq (se : Int) ((bit n - 1 : Nat) : Int) with ⟨g1, d1, d2⟩ | ⟨g1, d1, d2⟩
              · have HNj := Lib.hid (HCt.out (by omega))
                clear g1 d1 HCt HCf
                go_wp2_with (first | (go_at_call 17; (with_reducible refine (K2.out z).mono ?_); rintro e _ ⟨rfl, z2, rfl⟩) | fail)
                go_roundw
                case rel => exact ⟨i + 1, (v.up y1).up z2, by omega, by go_num, by first | rfl | trivial, HNj⟩
                case measure => simp [intOf]; omega
              · have hokf : Hid (ok = false) := Lib.hid (HCf.out (by omega))
                clear g1 d1 HCt HCf
                go_upto_region 22 with (first | (go_at_call 17; (with_reducible refine (K2.out z).mono ?_); rintro e _ ⟨rfl, z2, rfl⟩) | fail)
                clear K2
                obtain ⟨v3, hv⟩ : ∃ v3 : Later Y.heap.size Y, v3.val = z2.val := ⟨(v.up y1).up z2, rfl⟩
                rw [← hv]
                clear hv
                go_wp2
                refine bodyPost_ret (results_row (vs := [.int .i64 0, .slice none 0 0]) rfl _ _ gu rfl (((X4.out.keep v3.below).set 0 _).set 1 _) Try.underlying29 (by kernel_rfl)) rfl ?_
                exact HNo.out hokf.out v3
    · have hie : i = L.length := by omega
      have HF : Hid (FAx n L) := Lib.hid (HAx3.out.2 (by rw [hie] at HI1; exact HI1.out))
      subst hie
      clear HI1 HAx3 KH KL HT8
      have mk1 := mk_tab L.length (by omega)
      have mk2 := mk_tab (bit n) (by omega)
      have bn := bit_cast n
      have w1 := IntWalk.i64_in (bit n : Int) (by omega)
      go_upto_region 25 with fail
      have hvs := v.size
      have HT1 : Hid (ITab ((v.val.alloc (.cells (madeCells #[Value.int .i64 0] L.length) 3)).alloc (.cells (madeCells #[Value.int .i64 0] (bit n)) 3)) v.val.heap.size L.length (htT L A 0 0)) := Lib.hid (((ITab.made v.val L.length).keep ((Below.refl _ _).alloc (Nat.le_refl _) _)).congr (fun t ht => by unfold htT; rw [if_neg (by omega)]; split <;> rfl))
      have HT2 : Hid (ITab ((v.val.alloc (.cells (madeCells #[Value.int .i64 0] L.length) 3)).alloc (.cells (madeCells #[Value.int .i64 0] (bit n)) 3)) (v.val.heap.size + 1) (bit n) (rT (rkA n L A) 0)) := Lib.hid (by
        have h := ITab.made (v.val.alloc (.cells (madeCells #[Value.int .i64 0] L.length) 3)) (bit n)
        rw [show (v.val.alloc (.cells (madeCells #[Value.int .i64 0] L.length) 3)).heap.size = v.val.heap.size + 1 by simp] at h
        exact h.congr (fun t _ => by unfold rT; rw [if_neg (by omega)]))
      have HZ : Hid (∃ w : Later Y.heap.size Y, w.val = ((v.val.alloc (.cells (madeCells #[Value.int .i64 0] L.length) 3)).alloc (.cells (madeCells #[Value.int .i64 0] (bit n)) 3))) := Lib.hid ⟨(v.alloc _).alloc _, rfl⟩
      generalize ((v.val.alloc (.cells (madeCells #[Value.int .i64 0] L.length) 3)).alloc (.cells (madeCells #[Value.int .i64 0] (bit n)) 3)) = Z at *
      generalize v.val.heap.size = gh at *
      clear v mk1 mk2 bn w1
      obtain ⟨z, hz⟩ := HZ.out
      subst hz
      clear HZ
      obtain ⟨N, hN⟩ : ∃ N, N = L.length := ⟨_, rfl⟩
      go_wp2
      clear hN N
      go_loopw [14] (fun iv wr => ∃ (i : Nat) (v : Later Y.heap.size Y), i ≤ L.length ∧ iv = .int .i64 i ∧ wr = v.val ∧ Hid (ITab v.val gh L.length (htT L A i 0)) ∧ Hid (ITab v.val (gh + 1) (bit n) (rT (rkA n L A) 0))) (fun iv _ => L.length - (intOf iv).toNat)
      case atStart => exact ⟨0, z, by omega, rfl, by first | rfl | trivial, HT1, HT2⟩
      case round =>
        clear z HT1 HT2
        obtain ⟨i, v, hi, rfl, rfl, HT, HR⟩ := hrel
        by_cases hlt : i < L.length
        · obtain ⟨b, off, rfl, hbB, hcell⟩ := HI.out.at (k := i) (by rw [hil.out]; exact hlt)
          have HC : Hid (∀ (w : Later Y.heap.size Y) (k : Nat), k < L.length → w.val.cell? ⟨b, off + k, none⟩ = some (.int .i64 ((L.getD k 0 : Nat) : Int))) := Lib.hid (fun w k hk => by rw [← ints_getD]; exact hcell w k (by rw [hil.out]; exact hk))
          clear hcell
          go_wp2
          go_loopw [15] (fun jv wr => ∃ (j : Nat) (v : Later Y.heap.size Y), j ≤ i ∧ jv = .int .i64 j ∧ wr = v.val ∧ Hid (ITab v.val gh L.length (htT L A i j)) ∧ Hid (ITab v.val (gh + 1) (bit n) (rT (rkA n L A) 0))) (fun jv _ => i - (intOf jv).toNat)
          case atStart => exact ⟨0, v, by omega, rfl, by first | rfl | trivial, HT, HR⟩
          case round =>
            clear v HT HR
            obtain ⟨j, v, hj, rfl, rfl, HT, HR⟩ := hrel
            by_cases hltj : j < i
            · have hjL : j < L.length := by omega
              have ciy : ∀ w : Later v.val.heap.size v.val, w.val.cell? ⟨b, off + i, none⟩ = some (.int .i64 ((L.getD i 0 : Nat) : Int)) := fun w => HC.out (v.up w) i hlt
              have cjy : ∀ w : Later v.val.heap.size v.val, w.val.cell? ⟨b, off + j, none⟩ = some (.int .i64 ((L.getD j 0 : Nat) : Int)) := fun w => HC.out (v.up w) j (by omega)
              have hx8 := H8.out i hlt
              have hz8 := H8.out j (by omega)
              have HTw : Hid (∀ w : Later v.val.heap.size v.val, ITab w.val gh L.length (htT L A i j)) := Lib.hid (fun w => HT.out.keep w.below)
              have HRw : Hid (∀ w : Later v.val.heap.size v.val, ITab w.val (gh + 1) (bit n) (rT (rkA n L A) 0)) := Lib.hid (fun w => HR.out.keep w.below)
              have HG : Hid (htG L A i j = if L.getD j 0 ||| L.getD i 0 = L.getD i 0 then A j + 1 else 0) := Lib.hid rfl
              have HS : Hid (mxT (htG L A i) (j + 1) = max (mxT (htG L A i) j) (htG L A i j)) := Lib.hid rfl
              have hAj := HA8.out j (by omega)
              have hM : mxT (htG L A i) j ≤ 257 := mxT_le (fun t ht => by
                unfold htG
                split
                · have := HA8.out t (by omega); omega
                · omega)
              have HTn : Hid (∀ (w : World) (q : Int), ITab w gh L.length (htT L A i j) → ((mxT (htG L A i) (j + 1) : Nat) : Int) = q → ITab (w.setCell ⟨gh, i, none⟩ (.int .i64 q)) gh L.length (htT L A i (j + 1))) := Lib.hid (fun w q h hq => h.set i q (fun t _ => by
                unfold htT
                by_cases h1 : t < i
                · rw [if_pos h1, if_neg (by omega), if_pos h1]
                · by_cases h2 : t = i
                  · rw [if_neg h1, if_pos h2, if_pos h2, hq]
                  · rw [if_neg h1, if_neg h2, if_neg h2, if_neg h1, if_neg h2]))
              have HTe : Hid (∀ w : World, ITab w gh L.length (htT L A i j) → mxT (htG L A i) (j + 1) = mxT (htG L A i) j → ITab w gh L.length (htT L A i (j + 1))) := Lib.hid (fun w h e => h.congr (fun t _ => by unfold htT; rw [e]))
              have HP : Hid (htT L A i j i = (mxT (htG L A i) j : Int)) := Lib.hid (by unfold htT; rw [if_neg (by omega), if_pos rfl])
              have HQ : Hid (htT L A i j j = (A j : Int)) := Lib.hid (by unfold htT; rw [if_pos hltj])
              have K2 := Lib.hid (fun w => KW.out v w (L.getD j 0) (L.getD i 0) hz8 hx8)
              clear HT HR
              obtain ⟨y, hy⟩ : ∃ y : Later v.val.heap.size v.val, y.val = v.val := ⟨Later.self _, rfl⟩
              rw [← hy]
              clear hy
              generalize L.getD i 0 = x at *
              generalize L.getD j 0 = z at *
              obtain ⟨p, hp⟩ : ∃ p, p = mxT (htG L A i) j := ⟨_, rfl⟩
              rw [← hp] at HS hM HP HTe
              clear hp
              go_upto_region 31 with fail
              by_cases hw : z ||| x = x
              · rw [decide_eq_true hw] at K2
                obtain ⟨q, hq⟩ : ∃ q, q = A j + 1 := ⟨_, rfl⟩
                have HS2 : Hid (mxT (htG L A i) (j + 1) = max p q) := Lib.hid (by rw [HS.out, HG.out, if_pos hw, hq])
                have w2 : IntKind.i64.wrap ((A j : Int) + 1) = (q : Int) := by rw [IntWalk.i64_in _ (by omega)]; omega
                clear hw HG HS HTe hAj
                generalize A j = aj at *
                have hq2 : q ≤ 400 ∨ True := .inr trivial
                clear hq hq2
                refine wp_region_later y (by kernel_rfl) (by kernel_rfl) (fun _ => ?_)
                repeat (first | go_big_quiet_step (((go_at_call 39; exact (K2.out _)))) | (refine wpQuiet_step (fun K hK => ?_); go_simp; refine ⟨_, fun _ => rfl, ?_⟩; refine hK _ ?_; clear hK K))
                refine wpQuiet_nil ?_
                intro y
                have c1 : ∀ w : Later y.val.heap.size y.val, w.val.cell? ⟨gh, i, none⟩ = some (.int .i64 (p : Int)) := fun w => by have := (HTw.out (y.up w)).cell hlt; rw [HP.out] at this; exact this
                have c2 : ∀ w : Later y.val.heap.size y.val, w.val.cell? ⟨gh, j, none⟩ = some (.int .i64 (aj : Int)) := fun w => by have := (HTw.out (y.up w)).cell (i := j) (by omega); rw [HQ.out] at this; exact this
                have c3 : ∀ w : Later y.val.heap.size y.val, w.val.frozen? ⟨gh, i, none⟩ = false := fun w => (HTw.out (y.up w)).frozen i
                clear ciy cjy K2 HP HQ
                go_upto_region 32 with fail
                refine wp_region_later_tail (Later.self y.val) 13 (by kernel_rfl) (by kernel_rfl) (fun v2 => ?_)
                simp only [List.take_succ_cons, List.take_zero, List.drop_succ_cons, List.drop_zero]
                repeat still_step
                refine wpStill_nil ?_
                go_wp2
                go_roundw
                case rel => exact ⟨j + 1, ((v.up y).up v2).set ⟨gh, i, none⟩ (by show _ ≤ gh; omega) _, by omega, by go_num, rfl, Lib.hid (HTn.out _ _ (HTw.out (y.up v2)) (by rw [HS2.out]; omega)), Lib.hid ((HRw.out (y.up v2)).other (by omega) _)⟩
                case measure => simp [intOf]; omega
              · rw [decide_eq_false hw] at K2
                have HS2 : Hid (mxT (htG L A i) (j + 1) = p) := Lib.hid (by rw [HS.out, HG.out, if_neg hw]; omega)
                clear hw HG HS
                refine wp_region_later y (by kernel_rfl) (by kernel_rfl) (fun _ => ?_)
                repeat (first | go_big_quiet_step (((go_at_call 39; exact (K2.out _)))) | (refine wpQuiet_step (fun K hK => ?_); go_simp; refine ⟨_, fun _ => rfl, ?_⟩; refine hK _ ?_; clear hK K))
                refine wpQuiet_nil ?_
                intro y
                go_wp2
                go_roundw
                case rel => exact ⟨j + 1, v.up y, by omega, by go_num, by first | rfl | trivial, Lib.hid (HTe.out _ (HTw.out y) HS2.out), Lib.hid (HRw.out y)⟩
                case measure => simp [intOf]; omega
            · have hje : j = i := by omega
              subst hje
              have HT9 : Hid (ITab v.val gh L.length (htT L A (j + 1) 0)) := Lib.hid (HT.out.congr (fun t ht => by
                unfold htT
                by_cases h1 : t < j
                · rw [if_pos h1, if_pos (by omega)]
                · by_cases h2 : t = j
                  · subst h2
                    rw [if_neg h1, if_pos rfl, if_pos (by omega), HHt.out t ht]
                    rfl
                  · rw [if_neg h1, if_neg h2, if_neg (by omega)]
                    split <;> rfl))
              clear HT
              go_wp2
              go_roundw
              case rel => exact ⟨j + 1, v, by omega, by go_num, by first | rfl | trivial, HT9, HR⟩
              case measure => simp [intOf]; omega
        · have hie2 : i = L.length := by omega
          have HTA : Hid (ITab v.val gh L.length (fun t => (A t : Int))) := Lib.hid (HT.out.congr (fun t ht => by unfold htT; rw [if_pos (by omega)]))
          subst hie2
          clear HT HHt
          go_wp2
          go_loopw [16] (fun sv wr => ∃ (s : Nat) (v : Later Y.heap.size Y), s ≤ bit n ∧ sv = .int .i64 s ∧ wr = v.val ∧ Hid (ITab v.val gh L.length (fun t => (A t : Int))) ∧ Hid (ITab v.val (gh + 1) (bit n) (rT (rkA n L A) s))) (fun sv _ => bit n - (intOf sv).toNat)
          case atStart => exact ⟨0, v, by omega, rfl, by first | rfl | trivial, HTA, HR⟩
          case round =>
            clear v HTA HR
            obtain ⟨s, v, hs, rfl, rfl, HT, HR⟩ := hrel
            by_cases hlt : s < bit n
            · have HTw : Hid (∀ w : Later v.val.heap.size v.val, ITab w.val gh L.length (fun t => (A t : Int))) := Lib.hid (fun w => HT.out.keep w.below)
              have HRw : Hid (∀ w : Later v.val.heap.size v.val, ITab w.val (gh + 1) (bit n) (rT (rkA n L A) s)) := Lib.hid (fun w => HR.out.keep w.below)
              have K0 : Hid (Calls Try.prog 17 #[.int .i64 n] v.val (Ret v.val.heap.size v.val (.int .i64 ((bit n - 1 : Nat) : Int)))) := Lib.hid (KA.out v.val (Later.self v.val))
              have HH0 : Hid (bit n - 1 = hulTo n L s 0) := Lib.hid rfl
              clear HT HR
              obtain ⟨al, hal⟩ : ∃ al, al = bit n - 1 := ⟨_, rfl⟩
              rw [← hal] at K0 HH0
              clear hal
              go_upto_region 37 with (first | (go_at_call 17; (with_reducible refine (K0.out).mono ?_); rintro e _ ⟨rfl, v1, rfl⟩) | fail)
              clear K0
              go_wp2
              go_loopw [17, 19] (fun hv iv wr => ∃ (i : Nat) (z : Later v.val.heap.size v.val), i ≤ L.length ∧ hv = .int .i64 ((hulTo n L s i : Nat) : Int) ∧ iv = .int .i64 i ∧ wr = z.val) (fun _ iv _ => L.length - (intOf iv).toNat)
              case atStart => exact ⟨0, v1, by omega, by rw [← HH0.out], rfl, by first | rfl | trivial⟩
              case round =>
                clear v1
                obtain ⟨i, z, hi, rfl, rfl, rfl⟩ := hrel
                by_cases hlti : i < L.length
                · obtain ⟨b, off, rfl, hbB, hcell⟩ := HI.out.at (k := i) (by rw [hil.out]; exact hlti)
                  have ci : ∀ w : Later v.val.heap.size v.val, w.val.cell? ⟨b, off + i, none⟩ = some (.int .i64 ((L.getD i 0 : Nat) : Int)) := fun w => by rw [← ints_getD]; exact hcell (v.up w) i (by rw [hil.out]; exact hlti)
                  have hx8 := H8.out i hlti
                  have K2 := Lib.hid (KW.out v z s (L.getD i 0) (by omega) hx8)
                  have HS : Hid (hulTo n L s (i + 1) = if s ||| L.getD i 0 = L.getD i 0 then hulTo n L s i &&& L.getD i 0 else hulTo n L s i) := Lib.hid rfl
                  have hh8 := hulTo_lt n L s i
                  clear hcell
                  generalize L.getD i 0 = x at *
                  obtain ⟨h2, hh2⟩ : ∃ h2, h2 = hulTo n L s (i + 1) := ⟨_, rfl⟩
                  rw [← hh2] at HS
                  have HH2 := Lib.hid hh2
                  clear hh2
                  generalize hulTo n L s i = hh at *
                  have o1 := i64_and hh x (by omega) (by omega)
                  have cz := ci z
                  by_cases hw : s ||| x = x
                  · rw [decide_eq_true hw] at K2
                    have HN : Hid (h2 = hh &&& x) := Lib.hid (by rw [HS.out, if_pos hw])
                    clear hw HS hh8
                    rw [← HN.out] at o1
                    go_upto_region 41 with (first | (go_at_call 39; (with_reducible refine (K2.out).mono ?_); rintro e _ ⟨rfl, z2, rfl⟩) | fail)
                    have cz2 := ci z2
                    clear cz ci
                    go_wp2
                    go_roundw
                    case rel => exact ⟨i + 1, z2, by omega, by rw [← HH2.out], by go_num, by first | rfl | trivial⟩
                    case measure => simp [intOf]; omega
                  · rw [decide_eq_false hw] at K2
                    have HN : Hid (h2 = hh) := Lib.hid (by rw [HS.out, if_neg hw])
                    clear hw HS hh8 o1
                    go_wp2_with (first | (go_at_call 39; (with_reducible refine (K2.out).mono ?_); rintro e _ ⟨rfl, z2, rfl⟩) | fail)
                    go_roundw
                    case rel => exact ⟨i + 1, z2, by omega, by rw [← HH2.out, HN.out], by go_num, by first | rfl | trivial⟩
                    case measure => simp [intOf]; omega
                · have hie3 : i = L.length := by omega
                  have HHu : Hid (hulTo n L s i = hul n L s) := Lib.hid (by rw [hie3]; rfl)
                  rw [HHu.out]
                  have HRk : Hid (((atTo L A (hul n L s) L.length : Nat) : Int) = rkA n L A s) := Lib.hid rfl
                  subst hie3
                  clear HHu
                  generalize hul n L s = hu at *
                  go_wp2
                  go_loopw [18, 20] (fun tv iv wr => ∃ (i : Nat) (z : Later v.val.heap.size v.val), i ≤ L.length ∧ tv = .int .i64 ((atTo L A hu i : Nat) : Int) ∧ iv = .int .i64 i ∧ wr = z.val) (fun _ iv _ => L.length - (intOf iv).toNat)
                  case atStart => exact ⟨0, z, by omega, by first | rfl | trivial, rfl, by first | rfl | trivial⟩
                  case round =>
                    clear z
                    obtain ⟨i, z, hi, rfl, rfl, rfl⟩ := hrel
                    by_cases hlti : i < L.length
                    · obtain ⟨b, off, rfl, hbB, hcell⟩ := HI.out.at (k := i) (by rw [hil.out]; exact hlti)
                      have cz : z.val.cell? ⟨b, off + i, none⟩ = some (.int .i64 ((L.getD i 0 : Nat) : Int)) := by rw [← ints_getD]; exact hcell (v.up z) i (by rw [hil.out]; exact hlti)
                      have ct : z.val.cell? ⟨gh, i, none⟩ = some (.int .i64 (A i : Int)) := (HTw.out z).cell hlti
                      have HS : Hid (atTo L A hu (i + 1) = if L.getD i 0 = hu then A i else atTo L A hu i) := Lib.hid rfl
                      clear hcell
                      generalize L.getD i 0 = x at *
                      obtain ⟨h2, hh2⟩ : ∃ h2, h2 = atTo L A hu (i + 1) := ⟨_, rfl⟩
                      rw [← hh2] at HS
                      have HH2 := Lib.hid hh2
                      clear hh2
                      generalize atTo L A hu i = t0 at *
                      generalize A i = ai at *
                      rcases ieq (x : Int) (hu : Int) with ⟨g1, d1, d2⟩ | ⟨g1, d1, d2⟩
                      · have HN : Hid (h2 = ai) := Lib.hid (by rw [HS.out, if_pos (by omega)])
                        clear g1 HS d2
                        go_wp2
                        go_roundw
                        case rel => exact ⟨i + 1, z, by omega, by rw [← HH2.out, HN.out], by go_num, by first | rfl | trivial⟩
                        case measure => simp [intOf]; omega
                      · have HN : Hid (h2 = t0) := Lib.hid (by rw [HS.out, if_neg (by omega)])
                        clear g1 HS d2
                        go_wp2
                        go_roundw
                        case rel => exact ⟨i + 1, z, by omega, by rw [← HH2.out, HN.out], by go_num, by first | rfl | trivial⟩
                        case measure => simp [intOf]; omega
                    · have hie4 : i = L.length := by omega
                      subst hie4
                      obtain ⟨tt, htt⟩ : ∃ tt, tt = atTo L A hu L.length := ⟨_, rfl⟩
                      rw [← htt] at HRk ⊢
                      clear htt
                      have fz := (HRw.out z).frozen s
                      have cz := (HRw.out z).cell hlt
                      have HRn : Hid (ITab (z.val.setCell ⟨gh + 1, s, none⟩ (.int .i64 (tt : Int))) (gh + 1) (bit n) (rT (rkA n L A) (s + 1))) := Lib.hid ((HRw.out z).set s (tt : Int) (fun t _ => by
                        unfold rT
                        by_cases h1 : t < s
                        · rw [if_pos (by omega), if_neg (by omega), if_pos h1]
                        · by_cases h2 : t = s
                          · subst h2; rw [if_pos (by omega), if_pos rfl, HRk.out]
                          · rw [if_neg (by omega), if_neg h2, if_neg h1]))
                      have HTn : Hid (ITab (z.val.setCell ⟨gh + 1, s, none⟩ (.int .i64 (tt : Int))) gh L.length (fun t => (A t : Int))) := Lib.hid ((HTw.out z).other (by omega) _)
                      clear HRw HTw HRk
                      go_wp2
                      go_roundw
                      case rel => exact ⟨s + 1, (v.up z).set ⟨gh + 1, s, none⟩ (by show _ ≤ gh + 1; omega) _, by omega, by go_num, by first | rfl | trivial, HTn, HRn⟩
                      case measure => simp [intOf]; omega
            · have hse : s = bit n := by omega
              have HRR : Hid (ITab v.val (gh + 1) (bit n) (rkA n L A)) := Lib.hid (HR.out.congr (fun t ht => by unfold rT; rw [if_pos (by omega)]))
              have K1 := Lib.hid (KR.out v (gh + 1) HRR.out HF.out)
              subst hse
              clear KR HR HT KW KA
              go_wp2_with (first | (go_at_call 16; (with_reducible refine (K1.out).mono ?_); rintro e _ ⟨_, rfl, ⟨ad, cp, rfl, hO⟩, v3, rfl⟩; have HO := Lib.hid hO; clear hO; have r0 : v3.val.cell? ⟨gu, 0, none⟩ = some (.int .i64 0) := f0 (v.up v3); have r1 : v3.val.frozen? ⟨gu, 0, none⟩ = false := z0 (v.up v3); have r2 : ∀ x : Value, (v3.val.setCell ⟨gu, 0, none⟩ x).cell? ⟨gu, 1, none⟩ = some (.slice none 0 0) := f1 (v.up v3); have r3 : ∀ x : Value, (v3.val.setCell ⟨gu, 0, none⟩ x).frozen? ⟨gu, 1, none⟩ = false := z1 (v.up v3)) | fail)
              refine bodyPost_ret (results_row (vs := [.int .i64 (mdN ok n), .slice ad (mdX ok G).length cp]) rfl _ _ gu rfl (((X4.out.keep (v.up v3).below).set 0 _).set 1 _) Try.underlying29 (by kernel_rfl)) rfl ?_
              obtain ⟨y1, hy1⟩ := later_set (HVY.out (v.up v3)) (g := gu) (i := 0) (by omega) (.int .i64 (mdN ok n))
              obtain ⟨y2, hy2⟩ := later_set ⟨y1, hy1⟩ (g := gu) (i := 1) (by omega) (.slice ad (mdX ok G).length cp)
              have hvs2 := v.size
              exact RetP.of ⟨y2, hy2⟩ ⟨ad, cp, rfl, ((HO.out.set (by omega) _).set (by omega) _).mono (by omega)⟩
end Go.Proofs.Ytmcffbmhkbijlaa
