
/-
  rotaref.OfCircuits.
-/
import Derived.Test.YtmcffbmhkbijlaaPk38
import Derived.Test.YtmcffbmhkbijlaaPk32
namespace Go.Proofs.Ytmcffbmhkbijlaa
open Go.RowKit
set_option linter.unusedVariables false

/-- what rotaref.OfCircuits asks of two sets and an element -/
def CkOk (L : List Nat) (x y k : Nat) : Prop := (x &&& y).testBit k = true → ∃ z, z < L.length ∧ L.getD z 0 ||| nand (x ||| y) (bit k) = nand (x ||| y) (bit k)
def CjOk (n : Nat) (L : List Nat) (x y : Nat) : Prop := ¬ (x ||| y = y) ∧ ∀ k, k < n → CkOk L x y k
def CiOk (n : Nat) (L : List Nat) (i : Nat) : Prop := L.getD i 0 ≠ 0 ∧ ∀ j, j < L.length → i ≠ j → CjOk n L (L.getD i 0) (L.getD j 0)
theorem or8 {x y : Nat} (hx : x < 256) (hy : y < 256) : x ||| y < 256 := Nat.or_lt_two_pow (n := 8) hx hy
theorem C_iff {n : Nat} {L : List Nat} (hinj : ∀ i j, i < L.length → j < L.length → i ≠ j → L.getD i 0 ≠ L.getD j 0) : CAx n L ↔ ∀ i, i < L.length → CiOk n L i := by
  constructor
  · intro h i hi
    have him : L.getD i 0 ∈ L := mem_getDN.2 ⟨i, hi, rfl⟩
    refine ⟨h.nz _ him, fun j hj hne => ?_⟩
    have hjm : L.getD j 0 ∈ L := mem_getDN.2 ⟨j, hj, rfl⟩
    refine ⟨fun e => h.anti _ him _ hjm (hinj i j hi hj hne) (or_eq_sub.1 e), fun k hk ht => ?_⟩
    obtain ⟨c, c1, c2⟩ := h.elim _ him _ hjm (hinj i j hi hj hne) k hk ht
    obtain ⟨z, hz, rfl⟩ := mem_getDN.1 c1
    exact ⟨z, hz, or_eq_sub.2 c2⟩
  · intro h
    refine ⟨fun c hc => ?_, fun a ha b hb hne hs => ?_, fun a ha b hb hne k hk ht => ?_⟩
    · obtain ⟨i, hi, rfl⟩ := mem_getDN.1 hc
      exact (h i hi).1
    · obtain ⟨i, hi, rfl⟩ := mem_getDN.1 ha
      obtain ⟨j, hj, rfl⟩ := mem_getDN.1 hb
      exact ((h i hi).2 j hj (fun e => hne (by rw [e]))).1 (or_eq_sub.2 hs)
    · obtain ⟨i, hi, rfl⟩ := mem_getDN.1 ha
      obtain ⟨j, hj, rfl⟩ := mem_getDN.1 hb
      obtain ⟨z, hz, e⟩ := ((h i hi).2 j hj (fun e => hne (by rw [e]))).2 k hk ht
      exact ⟨_, mem_getDN.2 ⟨z, hz, rfl⟩, or_eq_sub.1 e⟩
set_option maxRecDepth 100000 in
set_option maxHeartbeats 8000000 in
theorem c_refOfCircuitsTell {B : Nat} {W : World} (u : Later B W) (L : List Nat) (h8 : ∀ x, x ∈ L → x < 256) (cap g : Nat) (a : Option Addr) (s : Nat) (hs : s < 256) (hlen : L.length ≤ 256) (h : IntsAt B W a (ints L)) (hg : g < B) (hbox : W.cell? ⟨g, 0, none⟩ = some (.slice a L.length cap)) :
    Calls Try.prog 41 #[.int .i64 s, .pointer (some ⟨g, 0, none⟩)] u.val (Ret B W (.bool (PC L s))) := by
  have Q1 : Hid (∀ w : Later B W, w.val.cell? ⟨g, 0, none⟩ = some (.slice a L.length cap)) := Lib.hid (fun w => by rw [w.cell hg, hbox])
  have HI := Lib.hid h
  have hil : Hid ((ints L).length = L.length) := Lib.hid (ints_len L)
  have H8 : Hid (∀ k, k < L.length → L.getD k 0 < 256) := Lib.hid (fun k hk => h8 _ (by simp [hk]))
  have HP : Hid (PC L s = true ↔ ∀ i, i < L.length → ¬ (L.getD i 0 ||| s = s)) := Lib.hid (by
    rw [PC_iff, all_ix (Q := fun c => ¬ sub c s)]
    exact ⟨fun x i hi e => x i hi (or_eq_sub.1 e), fun x i hi e => x i hi (or_eq_sub.2 e)⟩)
  clear h hbox h8
  generalize PC L s = d at *
  go_enter Try.func41, Try.ntmps41
  go_wp2
  go_loopw [4] (fun iv wr => ∃ (i : Nat) (v : Later B W), i ≤ L.length ∧ iv = .int .i64 i ∧ wr = v.val ∧ Hid (∀ i', i' < i → ¬ (L.getD i' 0 ||| s = s))) (fun iv _ => L.length - (intOf iv).toNat)
  case atStart => exact ⟨0, u, by omega, rfl, rfl, Lib.hid (fun i hi => by omega)⟩
  case round =>
    clear u
    obtain ⟨i, v, hi, rfl, rfl, HI1⟩ := hrel
    have qv := Q1.out v
    by_cases hlt : i < L.length
    · obtain ⟨b, off, rfl, hbB, hcell⟩ := HI.out.at (k := i) (by rw [hil.out]; exact hlt)
      have ci : v.val.cell? ⟨b, off + i, none⟩ = some (.int .i64 ((L.getD i 0 : Nat) : Int)) := by rw [← ints_getD]; exact hcell v i (by rw [hil.out]; exact hlt)
      have hx8 := H8.out i hlt
      have HF := Lib.hid (fun c => (HP.out.1 c) i hlt)
      have HG : Hid (¬ (L.getD i 0 ||| s = s) → ∀ i', i' < i + 1 → ¬ (L.getD i' 0 ||| s = s)) := Lib.hid (fun c i' hi' => by
        by_cases e : i' = i
        · subst e; exact c
        · exact HI1.out i' (by omega))
      clear hcell HI1 HP
      generalize L.getD i 0 = x at *
      have K1 := Lib.hid (c_within v x s (by omega) (by omega))
      by_cases hd : x ||| s = s
      · rw [decide_eq_true hd] at K1
        have hdf : d = false := by
          cases hk : d
          · rfl
          · exact absurd hd (HF.out hk)
        subst hdf
        clear hd HF HG
        go_wp2_with (first | (go_at_call 39; (with_reducible refine (K1.out).mono ?_); rintro e _ ⟨rfl, v1, rfl⟩) | fail)
        go_ret
        exact Ret.mk v1 rfl
      · rw [decide_eq_false hd] at K1
        have HN := Lib.hid (HG.out hd)
        clear hd HF HG
        go_wp2_with (first | (go_at_call 39; (with_reducible refine (K1.out).mono ?_); rintro e _ ⟨rfl, v1, rfl⟩) | fail)
        go_roundw
        case rel => exact ⟨i + 1, v1, by omega, by go_num, by first | rfl | trivial, HN⟩
        case measure => simp [intOf]; omega
    · have hie : i = L.length := by omega
      subst hie
      have hdt : d = true := HP.out.2 HI1.out
      subst hdt
      clear HI1 HP
      go_wp2
      go_ret
      exact Ret.mk v rfl

set_option maxRecDepth 100000 in
set_option maxHeartbeats 16000000 in
theorem c_refOfCircuits {B : Nat} {W : World} (u : Later B W) (n : Nat) (hn : n ≤ 8) (L : List Nat) (hl : L = those n (memB L)) (a : Option Addr) (cap : Nat) (h : IntsAt B W a (ints L)) (ok : Bool) (hok : ok = true ↔ CAx n L) :
    Calls Try.prog 11 #[.int .i64 n, .slice a L.length cap] u.val (RetP B W (MatB B (mdN ok n) (mdX ok (big n (PC L))) ok)) := by
  have hB := u.size
  have hlt : ∀ b, b ∈ L → b < bit n := fun b hb => by rw [hl] at hb; exact (mem_those.1 hb).1
  have hbn := bit_le n hn
  have hL256 : L.length ≤ 256 := by
    have h1 := thoseTo_len (memB L) (bit n)
    have h3 : those n (memB L) = thoseTo (memB L) (bit n) := rfl
    rw [hl, h3]; omega
  have hinj : ∀ i j, i < L.length → j < L.length → i ≠ j → L.getD i 0 ≠ L.getD j 0 := fun i j hi hj hne he => hne (fl_inj hl hi hj he)
  have uX : Later (u.val.alloc (.cells #[.slice a L.length cap] 22)).heap.size (u.val.alloc (.cells #[.slice a L.length cap] 22)) := Later.self _
  have X4 : Hid (RowL ((u.val.alloc (.cells #[.slice a L.length cap] 22)).alloc (.cells #[.int .i64 0, .slice none 0 0] 29)) (u.val.alloc (.cells #[.slice a L.length cap] 22)).heap.size 29 [.int .i64 0, .slice none 0 0]) := Lib.hid (RowL.new _ _ _)
  have XB : RowAt1 (u.val.alloc (.cells #[.slice a L.length cap] 22)) u.val.heap.size 22 (.slice a L.length cap) := RowAt1.new _ _ _
  have hXs : (u.val.alloc (.cells #[.slice a L.length cap] 22)).heap.size = u.val.heap.size + 1 := by simp
  have YB : RowAt1 ((u.val.alloc (.cells #[.slice a L.length cap] 22)).alloc (.cells #[.int .i64 0, .slice none 0 0] 29)) u.val.heap.size 22 (.slice a L.length cap) := XB.keep ((Later.self (u.val.alloc (.cells #[.slice a L.length cap] 22))).alloc _).below
  have QL : Hid (∀ w : Later ((u.val.alloc (.cells #[.slice a L.length cap] 22)).alloc (.cells #[.int .i64 0, .slice none 0 0] 29)).heap.size ((u.val.alloc (.cells #[.slice a L.length cap] 22)).alloc (.cells #[.int .i64 0, .slice none 0 0] 29)), w.val.cell? ⟨u.val.heap.size, 0, none⟩ = some (.slice a L.length cap)) := Lib.hid (fun w => (YB.keep w.below).c0)
  have HVY : Hid (∀ v : Later ((u.val.alloc (.cells #[.slice a L.length cap] 22)).alloc (.cells #[.int .i64 0, .slice none 0 0] 29)).heap.size ((u.val.alloc (.cells #[.slice a L.length cap] 22)).alloc (.cells #[.int .i64 0, .slice none 0 0] 29)), ∃ w : Later B W, w.val = v.val) := Lib.hid (fun v => ⟨((u.alloc _).alloc _).up v, rfl⟩)
  have HI : Hid (IntsAt ((u.val.alloc (.cells #[.slice a L.length cap] 22)).alloc (.cells #[.int .i64 0, .slice none 0 0] 29)).heap.size ((u.val.alloc (.cells #[.slice a L.length cap] 22)).alloc (.cells #[.int .i64 0, .slice none 0 0] 29)) a (ints L)) := Lib.hid (h.to ((u.alloc _).alloc _))
  have hYs : ((u.val.alloc (.cells #[.slice a L.length cap] 22)).alloc (.cells #[.int .i64 0, .slice none 0 0] 29)).heap.size = u.val.heap.size + 2 := by simp
  have hil : Hid ((ints L).length = L.length) := Lib.hid (ints_len L)
  have KIn : Hid (∀ (w : Later ((u.val.alloc (.cells #[.slice a L.length cap] 22)).alloc (.cells #[.int .i64 0, .slice none 0 0] 29)).heap.size ((u.val.alloc (.cells #[.slice a L.length cap] 22)).alloc (.cells #[.int .i64 0, .slice none 0 0] 29))) (s i : Nat), s < 256 → i < 8 → Calls Try.prog 36 #[.int .i64 s, .int .i64 i] w.val (Ret ((u.val.alloc (.cells #[.slice a L.length cap] 22)).alloc (.cells #[.int .i64 0, .slice none 0 0] 29)).heap.size ((u.val.alloc (.cells #[.slice a L.length cap] 22)).alloc (.cells #[.int .i64 0, .slice none 0 0] 29)) (.bool (s.testBit i)))) := Lib.hid (fun w s i hs hi => c_in w s i (by omega) (by omega))
  have KW : Hid (∀ (w : Later ((u.val.alloc (.cells #[.slice a L.length cap] 22)).alloc (.cells #[.int .i64 0, .slice none 0 0] 29)).heap.size ((u.val.alloc (.cells #[.slice a L.length cap] 22)).alloc (.cells #[.int .i64 0, .slice none 0 0] 29))) (s t : Nat), s < 256 → t < 256 → Calls Try.prog 39 #[.int .i64 s, .int .i64 t] w.val (Ret ((u.val.alloc (.cells #[.slice a L.length cap] 22)).alloc (.cells #[.int .i64 0, .slice none 0 0] 29)).heap.size ((u.val.alloc (.cells #[.slice a L.length cap] 22)).alloc (.cells #[.int .i64 0, .slice none 0 0] 29)) (.bool (decide (s ||| t = t))))) := Lib.hid (fun w s t hs ht => c_within w s t (by omega) (by omega))
  have KTh : Hid (∀ w : Later ((u.val.alloc (.cells #[.slice a L.length cap] 22)).alloc (.cells #[.int .i64 0, .slice none 0 0] 29)).heap.size ((u.val.alloc (.cells #[.slice a L.length cap] 22)).alloc (.cells #[.int .i64 0, .slice none 0 0] 29)), Calls Try.prog 40 #[.int .i64 n, .func (.func 41) #[] #[.pointer (some ⟨u.val.heap.size, 0, none⟩)]] w.val (RetOwn w.val.heap.size w.val (ints (those n (PC L))))) := Lib.hid (fun w => by
    have hws := w.size
    refine c_those_own (Later.self w.val) n hn 41 _ (PC L) (fun args w => by kernel_rfl) (fun x v s hs => ?_)
    have hxs := x.size
    exact c_refOfCircuitsTell v L (fun b hb => nat8 hn (hlt b hb)) cap u.val.heap.size a s (by omega) hL256 ((HI.out.to w).to x) (by omega) (by rw [← QL.out (w.up x)]; rfl))
  have HT8 : Hid (∀ s, s ∈ those n (PC L) → s < 256) := Lib.hid (fun s hs => nat8 hn (mem_those.1 hs).1)
  have HTl : Hid ((those n (PC L)).length ≤ 256) := Lib.hid (by
    have h1 := thoseTo_len (PC L) (bit n)
    have h3 : those n (PC L) = thoseTo (PC L) (bit n) := rfl
    rw [h3]; omega)
  have KEn : Hid (∀ (w0 : Later ((u.val.alloc (.cells #[.slice a L.length cap] 22)).alloc (.cells #[.int .i64 0, .slice none 0 0] 29)).heap.size ((u.val.alloc (.cells #[.slice a L.length cap] 22)).alloc (.cells #[.int .i64 0, .slice none 0 0] 29))) (w : Later w0.val.heap.size w0.val) (ad : Option Addr) (cp : Nat), IntsAt w.val.heap.size w.val ad (ints (those n (PC L))) → Calls Try.prog 38 #[.slice ad (ints (those n (PC L))).length cp] w.val (RetOwn w.val.heap.size w.val (ints (big n (PC L))))) := Lib.hid (fun _ w ad cp hI => c_biggest_own (Later.self w.val) (those n (PC L)) ad cp hI (by have := HTl.out; omega) HT8.out)
  have H8 : Hid (∀ k, k < L.length → L.getD k 0 < 256) := Lib.hid (fun k hk => nat8 hn (hlt _ (by simp [hk])))
  have HAx2 : Hid (ok = true ↔ ∀ i, i < L.length → CiOk n L i) := Lib.hid (hok.trans (C_iff hinj))
  clear h hok hlt hl hinj YB XB uX
  obtain ⟨G, hG⟩ : ∃ G, G = big n (PC L) := ⟨_, rfl⟩
  rw [← hG] at KEn ⊢
  clear hG
  obtain ⟨Th, hTh⟩ : ∃ Th, Th = those n (PC L) := ⟨_, rfl⟩
  rw [← hTh] at KTh HT8 HTl KEn
  clear hTh
  go_enter Try.func11, Try.ntmps11
  go_upto_region 1 with fail
  generalize hgg : (u.val.alloc (.cells #[.slice a L.length cap] 22)).heap.size = gu at *
  generalize hgu : u.val.heap.size = gl at *
  clear hgu hgg
  generalize ((u.val.alloc (.cells #[.slice a L.length cap] 22)).alloc (.cells #[.int .i64 0, .slice none 0 0] 29)) = Y at *
  subst hXs
  have hg4 : gl + 1 < Y.heap.size := by omega
  have f0 : ∀ (w : Later Y.heap.size Y), w.val.cell? ⟨gl + 1, 0, none⟩ = some (.int .i64 0) := fun w => (X4.out.keep_at w.below hg4).cell rfl
  have z0 : ∀ (w : Later Y.heap.size Y), w.val.frozen? ⟨gl + 1, 0, none⟩ = false := fun w => (X4.out.keep_at w.below hg4).fz 0
  have f1 : ∀ (w : Later Y.heap.size Y) (x0 : Value), (w.val.setCell ⟨gl + 1, 0, none⟩ x0).cell? ⟨gl + 1, 1, none⟩ = some (.slice none 0 0) := fun w x0 => ((X4.out.keep_at w.below hg4).set 0 x0).cell rfl
  have z1 : ∀ (w : Later Y.heap.size Y) (x0 : Value), (w.val.setCell ⟨gl + 1, 0, none⟩ x0).frozen? ⟨gl + 1, 1, none⟩ = false := fun w x0 => ((X4.out.keep_at w.below hg4).set 0 x0).fz 1
  have HNo : Hid (ok = false → ∀ v1 : Later Y.heap.size Y, RetP B W (MatB B (mdN ok n) (mdX ok G) ok) (.returned (.tuple #[.agg #[.int .i64 0, .slice none 0 0], .bool false])) ((v1.val.setCell ⟨gl + 1, 0, none⟩ (.int .i64 0)).setCell ⟨gl + 1, 1, none⟩ (.slice none 0 0))) := Lib.hid (fun hok v1 => by
    subst hok
    obtain ⟨y1, hy1⟩ := later_set (HVY.out v1) (g := gl + 1) (i := 0) (by omega) (.int .i64 0)
    obtain ⟨y2, hy2⟩ := later_set ⟨y1, hy1⟩ (g := gl + 1) (i := 1) (by omega) (.slice none 0 0)
    exact RetP.of ⟨y2, hy2⟩ MatB.no)
  obtain ⟨y, hy⟩ : ∃ y : Later Y.heap.size Y, y.val = Y := ⟨Later.self _, rfl⟩
  rw [← hy]
  clear hy u
  go_wp2
  go_loopw [6] (fun iv wr => ∃ (i : Nat) (v : Later Y.heap.size Y), i ≤ L.length ∧ iv = .int .i64 i ∧ wr = v.val ∧ Hid (∀ i', i' < i → CiOk n L i')) (fun iv _ => L.length - (intOf iv).toNat)
  case atStart => exact ⟨0, y, by omega, rfl, rfl, Lib.hid (fun i hi => by omega)⟩
  case round =>
    clear y
    obtain ⟨i, v, hi, rfl, rfl, HI1⟩ := hrel
    have ql := QL.out
    by_cases hlt : i < L.length
    · obtain ⟨b, off, rfl, hbB, hcell⟩ := HI.out.at (k := i) (by rw [hil.out]; exact hlt)
      have HC : Hid (∀ (w : Later Y.heap.size Y) (k : Nat), k < L.length → w.val.cell? ⟨b, off + k, none⟩ = some (.int .i64 ((L.getD k 0 : Nat) : Int))) := Lib.hid (fun w k hk => by rw [← ints_getD]; exact hcell w k (by rw [hil.out]; exact hk))
      have ci : ∀ w : Later Y.heap.size Y, w.val.cell? ⟨b, off + i, none⟩ = some (.int .i64 ((L.getD i 0 : Nat) : Int)) := fun w => HC.out w i hlt
      have hx8 := H8.out i hlt
      have HFi : Hid (∀ q : Nat, q = L.getD i 0 → ((q ≠ 0 ∧ ∀ j, j < L.length → i ≠ j → CjOk n L q (L.getD j 0)) → ∀ i', i' < i + 1 → CiOk n L i') ∧ (¬ (q ≠ 0 ∧ ∀ j, j < L.length → i ≠ j → CjOk n L q (L.getD j 0)) → ok = false)) := Lib.hid (fun q hq => ⟨fun hF i' hi' => by
        by_cases e : i' = i
        · subst e; rw [hq] at hF; exact hF
        · exact HI1.out i' (by omega), fun hF => by
          cases hk : ok
          · rfl
          · exact absurd (by rw [hq]; exact HAx2.out.1 hk i hlt) hF⟩)
      clear hcell HI1 HAx2
      obtain ⟨x, hx⟩ : ∃ x, x = L.getD i 0 := ⟨_, rfl⟩
      have HFx := Lib.hid (HFi.out x hx)
      rw [← hx] at ci hx8
      clear hx HFi
      by_cases hx0 : x = 0
      · have hokf : Hid (ok = false) := Lib.hid (HFx.out.2 (fun c => c.1 hx0))
        subst hx0
        go_wp2
        refine bodyPost_ret (results_row (vs := [.int .i64 0, .slice none 0 0]) rfl _ _ (gl + 1) rfl (((X4.out.keep v.below).set 0 _).set 1 _) Try.underlying29 (by kernel_rfl)) rfl ?_
        exact HNo.out hokf.out v
      have d0 : ((x : Int) == 0) = false := by rw [beq_eq_false_iff_ne]; omega
      have HX0 := Lib.hid hx0
      clear hx0
      go_wp2
      go_loopw [7] (fun jv wr => ∃ (j : Nat) (v : Later Y.heap.size Y), j ≤ L.length ∧ jv = .int .i64 j ∧ wr = v.val ∧ Hid (∀ j', j' < j → i ≠ j' → CjOk n L x (L.getD j' 0))) (fun jv _ => L.length - (intOf jv).toNat)
      case atStart => exact ⟨0, v, by omega, rfl, by first | rfl | trivial, Lib.hid (fun k hk => by omega)⟩
      case round =>
        clear v
        obtain ⟨j, v, hj, rfl, rfl, HJ1⟩ := hrel
        by_cases hltj : j < L.length
        · go_upto_region 9 with fail
          rcases ieq (i : Int) (j : Int) with ⟨g1, d1, _⟩ | ⟨g1, d1, _⟩
          · have HN : Hid (∀ j', j' < j + 1 → i ≠ j' → CjOk n L x (L.getD j' 0)) := Lib.hid (fun j' hj' hne => HJ1.out j' (by omega) hne)
            clear g1 HJ1
            go_wp2
            go_roundw
            case rel => exact ⟨j + 1, v, by omega, by go_num, by first | rfl | trivial, HN⟩
            case measure => simp [intOf]; omega
          have cj : ∀ w : Later Y.heap.size Y, w.val.cell? ⟨b, off + j, none⟩ = some (.int .i64 ((L.getD j 0 : Nat) : Int)) := fun w => HC.out w j hltj
          have hy8 := H8.out j hltj
          have HJx : Hid (∀ q : Nat, q = L.getD j 0 → (CjOk n L x q → ∀ j', j' < j + 1 → i ≠ j' → CjOk n L x (L.getD j' 0)) ∧ (¬ CjOk n L x q → ok = false)) := Lib.hid (fun q hq => ⟨fun hF j' hj' hz => by
            by_cases e : j' = j
            · subst e; rw [← hq]; exact hF
            · exact HJ1.out j' (by omega) hz, fun hF => HFx.out.2 (fun c => hF (by rw [hq]; exact c.2 j hltj (by omega)))⟩)
          obtain ⟨y, hy⟩ : ∃ y, y = L.getD j 0 := ⟨_, rfl⟩
          have HJy := Lib.hid (HJx.out y hy)
          rw [← hy] at cj hy8
          clear hy HJx HJ1 g1
          go_upto_region 10 with fail
          have K1 := Lib.hid (fun w : Later Y.heap.size Y => KW.out w x y hx8 hy8)
          by_cases hsub : x ||| y = y
          · rw [decide_eq_true hsub] at K1
            have hokf : Hid (ok = false) := Lib.hid (HJy.out.2 (fun c => c.1 hsub))
            clear hsub
            refine wp_region_later v (by kernel_rfl) (by kernel_rfl) (fun _ => ?_)
            repeat (first | go_big_quiet_step (((go_at_call 39; exact (K1.out _)))) | (refine wpQuiet_step (fun K hK => ?_); go_simp; refine ⟨_, fun _ => rfl, ?_⟩; refine hK _ ?_; clear hK K))
            refine wpQuiet_nil ?_
            intro v
            go_wp2
            refine bodyPost_ret (results_row (vs := [.int .i64 0, .slice none 0 0]) rfl _ _ (gl + 1) rfl (((X4.out.keep v.below).set 0 _).set 1 _) Try.underlying29 (by kernel_rfl)) rfl ?_
            exact HNo.out hokf.out v
          rw [decide_eq_false hsub] at K1
          have HS := Lib.hid hsub
          clear hsub
          refine wp_region_later v (by kernel_rfl) (by kernel_rfl) (fun _ => ?_)
          repeat (first | go_big_quiet_step (((go_at_call 39; exact (K1.out _)))) | (refine wpQuiet_step (fun K hK => ?_); go_simp; refine ⟨_, fun _ => rfl, ?_⟩; refine hK _ ?_; clear hK K))
          refine wpQuiet_nil ?_
          intro v
          clear K1
          go_wp2
          go_loopw [8] (fun kv wr => ∃ (k : Nat) (v : Later Y.heap.size Y), k ≤ n ∧ kv = .int .i64 k ∧ wr = v.val ∧ Hid (∀ k', k' < k → CkOk L x y k')) (fun kv _ => n - (intOf kv).toNat)
          case atStart => exact ⟨0, v, by omega, rfl, by first | rfl | trivial, Lib.hid (fun k hk => by omega)⟩
          case round =>
            clear v
            obtain ⟨k, v, hk, rfl, rfl, HK1⟩ := hrel
            by_cases hltk : k < n
            · have HKx : Hid ((CkOk L x y k → ∀ k', k' < k + 1 → CkOk L x y k') ∧ (¬ CkOk L x y k → ok = false)) := Lib.hid ⟨fun hF k' hk' => by
                by_cases e : k' = k
                · subst e; exact hF
                · exact HK1.out k' (by omega), fun hF => HJy.out.2 (fun c => hF (c.2 k hltk))⟩
              clear HK1
              have o1 := i64_and x y (by omega) (by omega)
              have ht8 : x &&& y < 256 := Nat.lt_of_le_of_lt Nat.and_le_left hx8
              have K1 := Lib.hid (fun w : Later Y.heap.size Y => KIn.out w (x &&& y) k ht8 (by omega))
              go_upto_region 15 with fail
              rcases btf ((x &&& y).testBit k) with g1 | g1
              case inr =>
                have HN := Lib.hid (HKx.out.1 (fun c => by rw [g1] at c; cases c))
                rw [g1] at K1
                clear g1 HKx
                generalize x &&& y = t at *
                refine wp_region_later v (by kernel_rfl) (by kernel_rfl) (fun _ => ?_)
                repeat (first | go_big_quiet_step (((go_at_call 36; exact (K1.out _)))) | (refine wpQuiet_step (fun K hK => ?_); go_simp; refine ⟨_, fun _ => rfl, ?_⟩; refine hK _ ?_; clear hK K))
                refine wpQuiet_nil ?_
                intro v
                go_wp2
                go_roundw
                case rel => exact ⟨k + 1, v, by omega, by go_num, by first | rfl | trivial, HN⟩
                case measure => simp [intOf]; omega
              have HG := Lib.hid g1
              rw [g1] at K1
              clear g1
              generalize hm : x &&& y = t at *
              refine wp_region_later v (by kernel_rfl) (by kernel_rfl) (fun _ => ?_)
              repeat (first | go_big_quiet_step (((go_at_call 36; exact (K1.out _)))) | (refine wpQuiet_step (fun K hK => ?_); go_simp; refine ⟨_, fun _ => rfl, ?_⟩; refine hK _ ?_; clear hK K))
              refine wpQuiet_nil ?_
              intro v
              subst hm
              clear K1
              have bk := bit_cast k
              have hbk := bit_lt k (by omega)
              have hM8 : nand (x ||| y) (bit k) < 256 := Nat.lt_of_le_of_lt (sub_leq_nand _ _) (or8 hx8 hy8)
              go_wp2
              go_loopw [9, 10] (fun bv zv wr => ∃ (p : Nat) (bb : Bool) (v : Later Y.heap.size Y), p ≤ L.length ∧ bv = .bool bb ∧ zv = .int .i64 p ∧ wr = v.val ∧ Hid (bb = true ↔ ∃ z, z < p ∧ L.getD z 0 ||| nand (x ||| y) (bit k) = nand (x ||| y) (bit k))) (fun _ zv _ => L.length - (intOf zv).toNat)
              case atStart => exact ⟨0, false, v, by omega, rfl, rfl, by first | rfl | trivial, Lib.hid ⟨fun h => (by cases h), fun ⟨q, hq, _⟩ => by omega⟩⟩
              case round =>
                clear v
                obtain ⟨p, bb, v, hp, rfl, rfl, rfl, HB⟩ := hrel
                by_cases hltp : p < L.length
                · have hNB : Hid (∀ r : Bool, (r = true ↔ (bb = true ∨ L.getD p 0 ||| nand (x ||| y) (bit k) = nand (x ||| y) (bit k))) → (r = true ↔ ∃ z, z < p + 1 ∧ L.getD z 0 ||| nand (x ||| y) (bit k) = nand (x ||| y) (bit k))) := Lib.hid (fun r hr => by
                    rw [hr, HB.out]
                    constructor
                    · rintro (⟨z, z1, z2⟩ | z2)
                      · exact ⟨z, by omega, z2⟩
                      · exact ⟨p, by omega, z2⟩
                    · rintro ⟨z, z1, z2⟩
                      by_cases e : z = p
                      · subst e; exact .inr z2
                      · exact .inl ⟨z, by omega, z2⟩)
                  clear HB
                  have cz : ∀ w : Later Y.heap.size Y, w.val.cell? ⟨b, off + p, none⟩ = some (.int .i64 ((L.getD p 0 : Nat) : Int)) := fun w => HC.out w p hltp
                  have hz8 := H8.out p hltp
                  generalize L.getD p 0 = q at *
                  go_upto_region 20 with fail
                  cases bb
                  · have w1 := IntWalk.i64_in (bit k : Int) (by omega)
                    have hxy8 := or8 hx8 hy8
                    have o2 := i64_or x y (by omega) (by omega)
                    have o3 := i64_andNot (x ||| y) (bit k) (by omega) (by omega)
                    have K2 := Lib.hid (fun w : Later Y.heap.size Y => KW.out w q (nand (x ||| y) (bit k)) hz8 hM8)
                    by_cases hmem : q ||| nand (x ||| y) (bit k) = nand (x ||| y) (bit k)
                    · rw [decide_eq_true hmem] at K2
                      have HN := Lib.hid (hNB.out true ⟨fun _ => .inr hmem, fun _ => rfl⟩)
                      clear hmem hNB hM8
                      refine wp_region_later v (by kernel_rfl) (by kernel_rfl) (fun _ => ?_)
                      repeat (first | go_big_quiet_step (((go_at_call 39; exact (K2.out _)))) | (refine wpQuiet_step (fun K hK => ?_); go_simp; refine ⟨_, fun _ => rfl, ?_⟩; refine hK _ ?_; clear hK K))
                      refine wpQuiet_nil ?_
                      intro v
                      go_wp2
                      go_roundw
                      case rel => exact ⟨p + 1, true, v, by omega, rfl, by go_num, by first | rfl | trivial, HN⟩
                      case measure => simp [intOf]; omega
                    · rw [decide_eq_false hmem] at K2
                      have HN := Lib.hid (hNB.out false ⟨fun c => (by cases c), fun c => c.elim (fun h => by cases h) (fun h => absurd h hmem)⟩)
                      clear hmem hNB hM8
                      refine wp_region_later v (by kernel_rfl) (by kernel_rfl) (fun _ => ?_)
                      repeat (first | go_big_quiet_step (((go_at_call 39; exact (K2.out _)))) | (refine wpQuiet_step (fun K hK => ?_); go_simp; refine ⟨_, fun _ => rfl, ?_⟩; refine hK _ ?_; clear hK K))
                      refine wpQuiet_nil ?_
                      intro v
                      go_wp2
                      go_roundw
                      case rel => exact ⟨p + 1, false, v, by omega, rfl, by go_num, by first | rfl | trivial, HN⟩
                      case measure => simp [intOf]; omega
                  · have HN := Lib.hid (hNB.out true ⟨fun _ => .inl rfl, fun _ => rfl⟩)
                    clear hNB hM8
                    refine wp_region_later v (by kernel_rfl) (by kernel_rfl) (fun _ => ?_)
                    repeat (first | go_big_quiet_step ((fail)) | (refine wpQuiet_step (fun K hK => ?_); go_simp; refine ⟨_, fun _ => rfl, ?_⟩; refine hK _ ?_; clear hK K))
                    refine wpQuiet_nil ?_
                    intro v
                    go_wp2
                    go_roundw
                    case rel => exact ⟨p + 1, true, v, by omega, rfl, by go_num, by first | rfl | trivial, HN⟩
                    case measure => simp [intOf]; omega
                · have hpe : p = L.length := by omega
                  subst hpe
                  clear hM8 o1
                  cases bb
                  · have hokf : Hid (ok = false) := Lib.hid (HKx.out.2 (fun c => by have := HB.out.2 (c HG.out); cases this))
                    clear HB
                    go_wp2
                    refine bodyPost_ret (results_row (vs := [.int .i64 0, .slice none 0 0]) rfl _ _ (gl + 1) rfl (((X4.out.keep v.below).set 0 _).set 1 _) Try.underlying29 (by kernel_rfl)) rfl ?_
                    exact HNo.out hokf.out v
                  · have HN := Lib.hid (HKx.out.1 (fun _ => HB.out.1 rfl))
                    clear HB
                    go_wp2
                    go_roundw
                    case rel => exact ⟨k + 1, v, by omega, by go_num, by first | rfl | trivial, HN⟩
                    case measure => simp [intOf]; omega
            · have hke : k = n := by omega
              subst hke
              have HN := Lib.hid (HJy.out.1 ⟨HS.out, HK1.out⟩)
              clear HK1
              go_wp2
              go_roundw
              case rel => exact ⟨j + 1, v, by omega, by go_num, by first | rfl | trivial, HN⟩
              case measure => simp [intOf]; omega
        · have hje : j = L.length := by omega
          subst hje
          have HN := Lib.hid (HFx.out.1 ⟨HX0.out, HJ1.out⟩)
          clear HJ1
          go_wp2
          go_roundw
          case rel => exact ⟨i + 1, v, by omega, by go_num, by first | rfl | trivial, HN⟩
          case measure => simp [intOf]; omega
    · have hie : i = L.length := by omega
      subst hie
      have hokt : ok = true := HAx2.out.2 HI1.out
      subst hokt
      have K1 := Lib.hid (KTh.out v)
      clear hlt hi HI1 KIn KW KTh hil
      have r0 := f0 v
      have r1 := z0 v
      go_wp2_with (first | (go_at_call 40; (with_reducible refine (K1.out).mono ?_); rintro e _ ⟨_, rfl, ⟨adT, cpT, rfl, hOT⟩, v2, rfl⟩; have HOT := Lib.hid hOT; clear hOT) | (go_at_call 38; (with_reducible refine (KEn.out v v2 adT cpT HOT.out.reads).mono ?_); rintro e _ ⟨_, rfl, ⟨ad, cp, rfl, hO⟩, v3, rfl⟩; have HO := Lib.hid hO; clear hO; have r0 : v3.val.cell? ⟨gl + 1, 0, none⟩ = some (.int .i64 0) := f0 ((v.up v2).up v3); have r1 : v3.val.frozen? ⟨gl + 1, 0, none⟩ = false := z0 ((v.up v2).up v3); have r2 : ∀ x : Value, (v3.val.setCell ⟨gl + 1, 0, none⟩ x).cell? ⟨gl + 1, 1, none⟩ = some (.slice none 0 0) := f1 ((v.up v2).up v3); have r3 : ∀ x : Value, (v3.val.setCell ⟨gl + 1, 0, none⟩ x).frozen? ⟨gl + 1, 1, none⟩ = false := z1 ((v.up v2).up v3)) | fail)
      refine bodyPost_ret (results_row (vs := [.int .i64 n, .slice ad (ints G).length cp]) rfl _ _ (gl + 1) rfl (((X4.out.keep ((v.up v2).up v3).below).set 0 _).set 1 _) Try.underlying29 (by kernel_rfl)) rfl ?_
      obtain ⟨y1, hy1⟩ := later_set (HVY.out ((v.up v2).up v3)) (g := gl + 1) (i := 0) (by omega) (.int .i64 n)
      obtain ⟨y2, hy2⟩ := later_set ⟨y1, hy1⟩ (g := gl + 1) (i := 1) (by omega) (.slice ad (ints G).length cp)
      have hvs := v.size
      have hvs2 := v2.size
      exact RetP.of ⟨y2, hy2⟩ ⟨ad, cp, rfl, ((HO.out.set (by omega) _).set (by omega) _).mono (by omega)⟩
end Go.Proofs.Ytmcffbmhkbijlaa
