
/-
  greedy.First; the stable sort of an order by weight; greedy.Best.
-/
import Derived.Test.YtjpcelldbhdneaaGrC
import Derived.Test.YtjpcelldbhdneaaCFun
import Derived.BigRegion
namespace Go.Proofs.Ytjpcelldbhdneaa
open Go.RowKit
set_option linter.unusedVariables false

set_option maxRecDepth 100000 in
set_option maxHeartbeats 8000000 in
theorem c_first_no {B : Nat} {W : World} (u : Later B W) (n : Int) (l : List Int) (a : Option Addr) (cap : Nat) (e : Int) (h : IntsAt B W a l) (hlen : l.length ≤ 4611686018427387904) (he : MatIs n l e) (h0 : e ≠ 0) (x : Value) :
    Calls Try.prog 89 #[.agg #[.int .i64 n, .slice a l.length cap], x] u.val (Ret B W (.tuple #[.int .i64 0, .int .i64 e])) := by
  have T0 : Hid (Two (u.val.alloc (.cells #[.int .i64 n, .slice a l.length cap] 24)) u.val.heap.size 24 (.int .i64 n) (.slice a l.length cap)) := Lib.hid (Two.new _ _ _ _)
  have hrr : u.val.heap.size < (u.val.alloc (.cells #[.int .i64 n, .slice a l.length cap] 24)).heap.size := by simp
  have hI : IntsAt (u.val.alloc (.cells #[.int .i64 n, .slice a l.length cap] 24)).heap.size (u.val.alloc (.cells #[.int .i64 n, .slice a l.length cap] 24)) a l := h.to (u.alloc _)
  have HV : Hid (∀ v : Later (u.val.alloc (.cells #[.int .i64 n, .slice a l.length cap] 24)).heap.size (u.val.alloc (.cells #[.int .i64 n, .slice a l.length cap] 24)), ∃ w : Later B W, w.val = v.val) := Lib.hid (fun v => ⟨(u.alloc _).up v, rfl⟩)
  have q0 : ∀ w : Later (u.val.alloc (.cells #[.int .i64 n, .slice a l.length cap] 24)).heap.size (u.val.alloc (.cells #[.int .i64 n, .slice a l.length cap] 24)), w.val.cell? ⟨u.val.heap.size, 0, none⟩ = some (.int .i64 n) := fun w => (T0.out.keep w.below).c0
  have q1 : ∀ w : Later (u.val.alloc (.cells #[.int .i64 n, .slice a l.length cap] 24)).heap.size (u.val.alloc (.cells #[.int .i64 n, .slice a l.length cap] 24)), w.val.cell? ⟨u.val.heap.size, 1, none⟩ = some (.slice a l.length cap) := fun w => (T0.out.keep w.below).c1
  have p0 : (u.val.alloc (.cells #[.int .i64 n, .slice a l.length cap] 24)).cell? ⟨u.val.heap.size, 0, none⟩ = some (.int .i64 n) := T0.out.c0
  have p1 : (u.val.alloc (.cells #[.int .i64 n, .slice a l.length cap] 24)).cell? ⟨u.val.heap.size, 1, none⟩ = some (.slice a l.length cap) := T0.out.c1
  have KC : Hid (Calls Try.prog 28 #[.agg #[.int .i64 n, .slice a l.length cap]] (u.val.alloc (.cells #[.int .i64 n, .slice a l.length cap] 24)) (Ret (u.val.alloc (.cells #[.int .i64 n, .slice a l.length cap] 24)).heap.size (u.val.alloc (.cells #[.int .i64 n, .slice a l.length cap] 24)) (.int .i64 e))) := Lib.hid (c_axCheck (Later.self (u.val.alloc (.cells #[.int .i64 n, .slice a l.length cap] 24))) n l a cap e hI hlen he)
  have d0 : (e != 0) = true := by rw [bne_iff_ne]; exact h0
  clear h hI he h0 T0 q0 q1
  go_enter Try.func89, Try.ntmps89
  go_wp2_with (first | (go_at_call 28; (with_reducible refine (KC.out).mono ?_); rintro e _ ⟨rfl, v1, rfl⟩))
  go_ret2
  exact Ret.of (HV.out v1) rfl

theorem newTo_step {m : Nat} {p : List Int} {k : Nat} (h : newTo m p k) (h1 : 0 ≤ p.getD k 0 ∧ p.getD k 0 < m) (h2 : (seenTo m p k).testBit (p.getD k 0).toNat = false) : newTo m p (k + 1) := by
  intro j hj
  by_cases c : j = k
  · subst c
    refine ⟨h1.1, h1.2, fun i hi e => ?_⟩
    have := (seenTo_iff (m := m) p j (p.getD j 0).toNat (by omega)).2 ⟨i, hi, by omega⟩
    rw [this] at h2; cases h2
  · exact h j (by omega)
theorem newTo_no {m : Nat} (hm : m ≤ 8) {p : List Int} {k : Nat} (hk : k < p.length) (h : ¬ (0 ≤ p.getD k 0 ∧ p.getD k 0 < m ∧ (seenTo m p k).testBit (p.getD k 0).toNat = false)) : ¬ isOrd m p := fun hc => by
  obtain ⟨hl, hn⟩ := (isOrd_iff hm).1 hc
  have h1 := hn k (by omega)
  refine h ⟨h1.1, h1.2.1, ?_⟩
  rw [Bool.eq_false_iff]
  intro hb
  obtain ⟨j, hj, e⟩ := (seenTo_iff (m := m) p k (p.getD k 0).toNat (by omega)).1 hb
  exact h1.2.2 j hj (by omega)

def frsE (m : Nat) (p : List Int) : Int := if isOrd m p then 0 else 1
def frsV (m : Nat) (L : List Nat) (p : List Int) : Nat := if isOrd m p then takTo L (toN p) m else 0

set_option maxRecDepth 100000 in
set_option maxHeartbeats 8000000 in
theorem c_first2 {B : Nat} {W : World} (u : Later B W) (m : Nat) (hm : m ≤ 8) (l p : List Int) (a b : Option Addr) (cap capb : Nat) (h : IntsAt B W a l) (hlen : l.length ≤ 4611686018427387904) (he : MatIs (m : Int) l 0) (hp : IntsAt B W b p) (hpl : p.length ≤ 4611686018427387904) :
    Calls Try.prog 89 #[.agg #[.int .i64 m, .slice a l.length cap], .slice b p.length capb] u.val (Ret B W (.tuple #[.int .i64 (frsV m (toN l) p), .int .i64 (frsE m p)])) := by
  have hb := bit_le m hm
  have T0 : Hid (Two (u.val.alloc (.cells #[.int .i64 (m : Int), .slice a l.length cap] 24)) u.val.heap.size 24 (.int .i64 (m : Int)) (.slice a l.length cap)) := Lib.hid (Two.new _ _ _ _)
  have hrr : u.val.heap.size < (u.val.alloc (.cells #[.int .i64 (m : Int), .slice a l.length cap] 24)).heap.size := by simp
  have hI : IntsAt (u.val.alloc (.cells #[.int .i64 (m : Int), .slice a l.length cap] 24)).heap.size (u.val.alloc (.cells #[.int .i64 (m : Int), .slice a l.length cap] 24)) a l := h.to (u.alloc _)
  have HV : Hid (∀ v : Later (u.val.alloc (.cells #[.int .i64 (m : Int), .slice a l.length cap] 24)).heap.size (u.val.alloc (.cells #[.int .i64 (m : Int), .slice a l.length cap] 24)), ∃ w : Later B W, w.val = v.val) := Lib.hid (fun v => ⟨(u.alloc _).up v, rfl⟩)
  have q0 : ∀ w : Later (u.val.alloc (.cells #[.int .i64 (m : Int), .slice a l.length cap] 24)).heap.size (u.val.alloc (.cells #[.int .i64 (m : Int), .slice a l.length cap] 24)), w.val.cell? ⟨u.val.heap.size, 0, none⟩ = some (.int .i64 (m : Int)) := fun w => (T0.out.keep w.below).c0
  have q1 : ∀ w : Later (u.val.alloc (.cells #[.int .i64 (m : Int), .slice a l.length cap] 24)).heap.size (u.val.alloc (.cells #[.int .i64 (m : Int), .slice a l.length cap] 24)), w.val.cell? ⟨u.val.heap.size, 1, none⟩ = some (.slice a l.length cap) := fun w => (T0.out.keep w.below).c1
  have p0 : (u.val.alloc (.cells #[.int .i64 (m : Int), .slice a l.length cap] 24)).cell? ⟨u.val.heap.size, 0, none⟩ = some (.int .i64 (m : Int)) := T0.out.c0
  have p1 : (u.val.alloc (.cells #[.int .i64 (m : Int), .slice a l.length cap] 24)).cell? ⟨u.val.heap.size, 1, none⟩ = some (.slice a l.length cap) := T0.out.c1
  have HP : Hid (IntsAt (u.val.alloc (.cells #[.int .i64 (m : Int), .slice a l.length cap] 24)).heap.size (u.val.alloc (.cells #[.int .i64 (m : Int), .slice a l.length cap] 24)) b p) := Lib.hid (hp.to (u.alloc _))
  have KC : Hid (Calls Try.prog 28 #[.agg #[.int .i64 m, .slice a l.length cap]] (u.val.alloc (.cells #[.int .i64 (m : Int), .slice a l.length cap] 24)) (Ret (u.val.alloc (.cells #[.int .i64 (m : Int), .slice a l.length cap] 24)).heap.size (u.val.alloc (.cells #[.int .i64 (m : Int), .slice a l.length cap] 24)) (.int .i64 0))) := Lib.hid (c_axCheck (Later.self (u.val.alloc (.cells #[.int .i64 (m : Int), .slice a l.length cap] 24))) m l a cap 0 hI hlen he)
  have KT : Hid (isOrd m p → ∀ v : Later (u.val.alloc (.cells #[.int .i64 (m : Int), .slice a l.length cap] 24)).heap.size (u.val.alloc (.cells #[.int .i64 (m : Int), .slice a l.length cap] 24)), Calls Try.prog 190 #[.agg #[.int .i64 m, .slice a l.length cap], .slice b p.length capb] v.val (Ret (u.val.alloc (.cells #[.int .i64 (m : Int), .slice a l.length cap] 24)).heap.size (u.val.alloc (.cells #[.int .i64 (m : Int), .slice a l.length cap] 24)) (.int .i64 (takTo (toN l) (toN p) m)))) := Lib.hid (fun ho v => by
    obtain ⟨O, hO, hOl, hO2, _⟩ := isOrd_open hm ho
    have e1 : toN p = O := by
      rw [hO]; apply ints_inj; rw [ints_toN]
      intro i hi; rw [ints_getD]; omega
    have := c_taken v m hm l O a b cap capb hI hlen he (by rw [← hO]; exact hp.to (u.alloc _)) hOl hO2
    rw [← hO] at this
    rw [e1]; exact this)
  have HNo : Hid (¬ isOrd m p → frsV m (toN l) p = 0 ∧ frsE m p = 1) := Lib.hid (fun h => by unfold frsV frsE; rw [if_neg h, if_neg h]; exact ⟨rfl, rfl⟩)
  have HYes : Hid (isOrd m p → frsV m (toN l) p = takTo (toN l) (toN p) m ∧ frsE m p = 0) := Lib.hid (fun h => by unfold frsV frsE; rw [if_pos h, if_pos h]; exact ⟨rfl, rfl⟩)
  have HSt := Lib.hid (fun k => @newTo_step m p k)
  have HBad := Lib.hid (fun k => @newTo_no m hm p k)
  have HS8 := Lib.hid (fun k => seenTo_lt hm p k)
  have HS : Hid (∀ k, seenTo m p (k + 1) = if 0 ≤ p.getD k 0 ∧ p.getD k 0 < m then seenTo m p k ||| bit (p.getD k 0).toNat else seenTo m p k) := Lib.hid (fun k => rfl)
  have HEnd : Hid (newTo m p p.length → p.length = m → isOrd m p) := Lib.hid (fun h1 h2 => (isOrd_iff hm).2 ⟨h2, by rw [← h2]; rw [← h2] at h1; exact h1⟩)
  have HLn : Hid (isOrd m p → p.length = m) := Lib.hid (fun h => h.1)
  have H0 : Hid (seenTo m p 0 = 0) := Lib.hid rfl
  have q1' := q1
  clear h hI he T0 hp q1
  generalize frsV m (toN l) p = rV at *
  generalize frsE m p = rE at *
  generalize takTo (toN l) (toN p) m = G at *
  generalize seenTo m p = sn at *
  go_enter Try.func89, Try.ntmps89
  go_upto_region 5 with (first | (go_at_call 28; (with_reducible refine (KC.out).mono ?_); rintro e _ ⟨rfl, v1, rfl⟩))
  clear KC
  generalize u.val.heap.size = g0 at *
  generalize u.val.alloc (.cells #[.int .i64 (m : Int), .slice a l.length cap] 24) = W1 at *
  go_wp2
  go_loopw [7, 17] (fun o i wr => ∃ (k : Nat) (v : Later W1.heap.size W1), k ≤ p.length ∧ o = .int .i64 (sn k) ∧ i = .int .i64 k ∧ wr = v.val ∧ Hid (newTo m p k)) (fun _ i _ => p.length - (intOf i).toNat)
  case atStart => exact ⟨0, v1, by omega, by rw [H0.out]; rfl, rfl, rfl, Lib.hid (fun j hj => by omega)⟩
  case round =>
    clear v1
    obtain ⟨k, v, hk, rfl, rfl, rfl, hf⟩ := hrel
    by_cases hlt : k < p.length
    · obtain ⟨bb, off, rfl, hbB, hcell⟩ := HP.out.at (k := k) hlt
      have c0 : v.val.cell? ⟨bb, off + k, none⟩ = some (.int .i64 (p.getD k 0)) := hcell v k hlt
      have q0v := q0 v
      have h8 := HS8.out k
      have HX := Lib.hid (HSt.out k hf.out)
      have HY : Hid (¬ (0 ≤ p.getD k 0 ∧ p.getD k 0 < m ∧ (sn k).testBit (p.getD k 0).toNat = false) → rV = 0 ∧ rE = 1) := Lib.hid (fun h => HNo.out (HBad.out k hlt h))
      have HZ := Lib.hid (HS.out k)
      clear hcell hf
      generalize p.getD k 0 = x at *
      rcases ilt x 0 with ⟨g1, d1⟩ | ⟨g1, d1⟩
      · obtain ⟨rfl, rfl⟩ := HY.out (by omega)
        clear HX HY HZ g1
        go_wp2
        go_ret2
        exact Ret.of (HV.out v) rfl
      obtain ⟨y, rfl⟩ := Int.eq_ofNat_of_zero_le g1
      rcases ile (m : Int) (y : Int) with ⟨g2, d2⟩ | ⟨g2, d2⟩
      · obtain ⟨rfl, rfl⟩ := HY.out (by omega)
        clear HX HY HZ g1
        go_wp2
        go_ret2
        exact Ret.of (HV.out v) rfl
      have s1 := shr_andG (sn k) y (by omega)
      have hyt : ((y : Nat) : Int).toNat = y := by omega
      rw [hyt] at HX HY HZ
      rcases btf ((sn k).testBit y) with g3 | g3
      · obtain ⟨rfl, rfl⟩ := HY.out (by rw [g3]; simp)
        rw [g3] at s1
        rw [show ((true.toNat : Nat) : Int) = 1 from rfl] at s1
        clear HX HY HZ g1 g3
        go_wp2
        go_ret2
        exact Ret.of (HV.out v) rfl
      · rw [g3] at s1
        rw [show ((false.toNat : Nat) : Int) = 0 from rfl] at s1
        have hby := bit_lt y (by omega)
        have bc := bit_cast y
        have w1 : IntKind.i64.wrap (bit y : Int) = (bit y : Int) := IntWalk.i64_in _ (by omega)
        have o2 := i64_or (sn k) (bit y) (by omega) (by omega)
        have HN := Lib.hid (HX.out ⟨by omega, by omega⟩ g3)
        have HN2 : Hid (sn (k + 1) = sn k ||| bit y) := Lib.hid (by rw [HZ.out, if_pos ⟨by omega, by omega⟩])
        rw [bc] at s1
        clear HX HY HZ g1 g3
        go_wp2
        go_roundw
        case rel => exact ⟨k+1, v, by omega, vint (by rw [HN2.out]), by go_num, rfl, HN⟩
        case measure => simp [intOf]; omega
    · have hke : k = p.length := by omega
      subst hke
      have q0v := q0 v
      rcases ieq (p.length : Int) (m : Int) with ⟨g1, d1, d2⟩ | ⟨g1, d1, d2⟩
      · have hord := HEnd.out hf.out (by omega)
        obtain ⟨rfl, rfl⟩ := HYes.out hord
        have K1 := Lib.hid (KT.out hord)
        clear KT HEnd HYes HNo HBad HLn g1
        generalize p.length = q at *
        have p0v : v.val.cell? ⟨g0, 1, none⟩ = some (.slice a l.length cap) := q1' v
        go_wp2_with (first | (go_at_call 190; (with_reducible refine (K1.out _).mono ?_); rintro e _ ⟨rfl, v2, rfl⟩))
        go_ret2
        exact Ret.of (HV.out v2) rfl
      · obtain ⟨rfl, rfl⟩ := HNo.out (fun h => g1 (by have := HLn.out h; omega))
        clear KT HEnd HYes HNo HBad HLn g1 hk hlt
        generalize p.length = q at *
        go_wp2
        go_ret2
        exact Ret.of (HV.out v) rfl

end Go.Proofs.Ytjpcelldbhdneaa
