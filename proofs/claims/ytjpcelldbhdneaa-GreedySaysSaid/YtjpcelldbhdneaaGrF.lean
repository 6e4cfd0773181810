
/-
  greedy.Best.
-/
import Derived.Test.YtjpcelldbhdneaaGrE
import Derived.OwnWalk
namespace Go.Proofs.Ytjpcelldbhdneaa
open Go.RowKit
set_option linter.unusedVariables false

set_option maxRecDepth 100000 in
set_option maxHeartbeats 8000000 in
theorem c_best_no {B : Nat} {W : World} (u : Later B W) (n : Int) (q : Nat) (a : Option Addr) (cap : Nat) (e : Int) (he0 : e ≠ 0) (b : Option Addr) (qb capb : Nat) (K : ∀ v : Later B W, Calls Try.prog 186 #[.agg #[.int .i64 n, .slice a q cap], .slice b qb capb] v.val (Ret B W (.int .i64 e))) :
    Calls Try.prog 82 #[.agg #[.int .i64 n, .slice a q cap], .slice b qb capb] u.val (Ret B W (.tuple #[.int .i64 0, .int .i64 0, .int .i64 e])) := by
  have T0 : Two (u.val.alloc (.cells #[.int .i64 n, .slice a q cap] 24)) u.val.heap.size 24 (.int .i64 n) (.slice a q cap) := Two.new _ _ _ _
  have T1 : RowL ((u.val.alloc (.cells #[.int .i64 n, .slice a q cap] 24)).alloc (.cells #[.slice b qb capb] 22)) (u.val.alloc (.cells #[.int .i64 n, .slice a q cap] 24)).heap.size 22 [.slice b qb capb] := RowL.new _ _ _
  have T0' : Two ((u.val.alloc (.cells #[.int .i64 n, .slice a q cap] 24)).alloc (.cells #[.slice b qb capb] 22)) u.val.heap.size 24 (.int .i64 n) (.slice a q cap) := T0.keep ((Later.self (u.val.alloc (.cells #[.int .i64 n, .slice a q cap] 24))).alloc _).below
  have e1 : (u.val.alloc (.cells #[.int .i64 n, .slice a q cap] 24)).heap.size = u.val.heap.size + 1 := by simp
  have KW := Lib.hid (K ((u.alloc (.cells #[.int .i64 n, .slice a q cap] 24)).alloc (.cells #[.slice b qb capb] 22)))
  have KW2 : Hid (Calls Try.prog 186 #[.agg #[.int .i64 n, .slice a q cap], .slice b qb capb] ((u.val.alloc (.cells #[.int .i64 n, .slice a q cap] 24)).alloc (.cells #[.slice b qb capb] 22)) (Ret B W (.int .i64 e))) := KW
  have q0 := T0'.c0
  have q1 := T0'.c1
  have q2 : ((u.val.alloc (.cells #[.int .i64 n, .slice a q cap] 24)).alloc (.cells #[.slice b qb capb] 22)).cell? ⟨(u.val.alloc (.cells #[.int .i64 n, .slice a q cap] 24)).heap.size, 0, none⟩ = some (.slice b qb capb) := T1.cell rfl
  rw [e1] at q2
  have d0 : (e != 0) = true := by rw [bne_iff_ne]; exact he0
  clear T0 T1 T0' e1 K KW he0
  go_enter Try.func82, Try.ntmps82
  go_wp2_with (first | (go_at_call 186; (with_reducible refine (KW2.out).mono ?_); rintro e _ ⟨rfl, v1, rfl⟩))
  go_ret3
  exact Ret.mk v1 rfl

theorem getD_memN {L : List Nat} {k : Nat} (h : k < L.length) : L.getD k 0 ∈ L := by simp [h]
theorem tblW_list (w : Nat → Int) (m : Nat) : tabL m (fun t => (tblW w m t : Int)) = ints (rkd w m) := by
  have hl := rkd_len w m
  apply List.ext_getElem
  · rw [tabL_len, ints_len, hl]
  · intro i h1 h2
    rw [tabL_len] at h1
    simp only [tabL, List.getElem_map, List.getElem_range, ints]
    unfold tblW
    rw [if_pos h1]
    congr 1
    simp [show i < (rkd w m).length by omega]

set_option maxRecDepth 100000 in
set_option maxHeartbeats 20000000 in
theorem c_best {B : Nat} {W : World} (u : Later B W) (m : Nat) (hm : m ≤ 8) (l ws : List Int) (a b : Option Addr) (cap capb : Nat) (h : IntsAt B W a l) (hlen : l.length ≤ 4611686018427387904) (he : MatIs (m : Int) l 0) (hw : IntsAt B W b ws) (hp : PrcIs m ws 0) :
    Calls Try.prog 82 #[.agg #[.int .i64 m, .slice a l.length cap], .slice b m capb] u.val (Ret B W (.tuple #[.int .i64 (takTo (toN l) (rkd (fun i => ws.getD i 0) m) m), .int .i64 (wsT (fun i => ws.getD i 0) (takTo (toN l) (rkd (fun i => ws.getD i 0) m) m) m), .int .i64 0])) := by
  have hb := bit_le m hm
  have hwl := hp.ok.1
  have T0 : Two (u.val.alloc (.cells #[.int .i64 m, .slice a l.length cap] 24)) u.val.heap.size 24 (.int .i64 m) (.slice a l.length cap) := Two.new _ _ _ _
  have T1 : RowL ((u.val.alloc (.cells #[.int .i64 m, .slice a l.length cap] 24)).alloc (.cells #[.slice b m capb] 22)) (u.val.alloc (.cells #[.int .i64 m, .slice a l.length cap] 24)).heap.size 22 [.slice b m capb] := RowL.new _ _ _
  have T0' : Two ((u.val.alloc (.cells #[.int .i64 m, .slice a l.length cap] 24)).alloc (.cells #[.slice b m capb] 22)) u.val.heap.size 24 (.int .i64 m) (.slice a l.length cap) := T0.keep ((Later.self (u.val.alloc (.cells #[.int .i64 m, .slice a l.length cap] 24))).alloc _).below
  have e1 : (u.val.alloc (.cells #[.int .i64 m, .slice a l.length cap] 24)).heap.size = u.val.heap.size + 1 := by simp
  have hr1 : (u.val.alloc (.cells #[.int .i64 m, .slice a l.length cap] 24)).heap.size < ((u.val.alloc (.cells #[.int .i64 m, .slice a l.length cap] 24)).alloc (.cells #[.slice b m capb] 22)).heap.size := by simp
  have hZl : IntsAt ((u.val.alloc (.cells #[.int .i64 m, .slice a l.length cap] 24)).alloc (.cells #[.slice b m capb] 22)).heap.size ((u.val.alloc (.cells #[.int .i64 m, .slice a l.length cap] 24)).alloc (.cells #[.slice b m capb] 22)) a l := h.to ((u.alloc _).alloc _)
  have hZw : IntsAt ((u.val.alloc (.cells #[.int .i64 m, .slice a l.length cap] 24)).alloc (.cells #[.slice b m capb] 22)).heap.size ((u.val.alloc (.cells #[.int .i64 m, .slice a l.length cap] 24)).alloc (.cells #[.slice b m capb] 22)) b ws := hw.to ((u.alloc _).alloc _)
  have HZl := Lib.hid hZl
  have HZw := Lib.hid hZw
  have KW : Hid (Calls Try.prog 186 #[.agg #[.int .i64 m, .slice a l.length cap], .slice b m capb] ((u.val.alloc (.cells #[.int .i64 m, .slice a l.length cap] 24)).alloc (.cells #[.slice b m capb] 22)) (Ret ((u.val.alloc (.cells #[.int .i64 m, .slice a l.length cap] 24)).alloc (.cells #[.slice b m capb] 22)).heap.size ((u.val.alloc (.cells #[.int .i64 m, .slice a l.length cap] 24)).alloc (.cells #[.slice b m capb] 22)) (.int .i64 0))) := Lib.hid (by
    have := c_weights (Later.self ((u.val.alloc (.cells #[.int .i64 m, .slice a l.length cap] 24)).alloc (.cells #[.slice b m capb] 22))) m l ws a b cap capb 0 hZl hlen he hZw (by omega) hm hp
    rwa [hwl] at this)
  have q0 : ∀ w : Later ((u.val.alloc (.cells #[.int .i64 m, .slice a l.length cap] 24)).alloc (.cells #[.slice b m capb] 22)).heap.size ((u.val.alloc (.cells #[.int .i64 m, .slice a l.length cap] 24)).alloc (.cells #[.slice b m capb] 22)), w.val.cell? ⟨u.val.heap.size, 0, none⟩ = some (.int .i64 m) := fun w => (T0'.keep w.below).c0
  have q1 : ∀ w : Later ((u.val.alloc (.cells #[.int .i64 m, .slice a l.length cap] 24)).alloc (.cells #[.slice b m capb] 22)).heap.size ((u.val.alloc (.cells #[.int .i64 m, .slice a l.length cap] 24)).alloc (.cells #[.slice b m capb] 22)), w.val.cell? ⟨u.val.heap.size, 1, none⟩ = some (.slice a l.length cap) := fun w => (T0'.keep w.below).c1
  have q2 : ∀ w : Later ((u.val.alloc (.cells #[.int .i64 m, .slice a l.length cap] 24)).alloc (.cells #[.slice b m capb] 22)).heap.size ((u.val.alloc (.cells #[.int .i64 m, .slice a l.length cap] 24)).alloc (.cells #[.slice b m capb] 22)), w.val.cell? ⟨(u.val.alloc (.cells #[.int .i64 m, .slice a l.length cap] 24)).heap.size, 0, none⟩ = some (.slice b m capb) := fun w => (T1.keep w.below).cell rfl
  have z0 : ((u.val.alloc (.cells #[.int .i64 m, .slice a l.length cap] 24)).alloc (.cells #[.slice b m capb] 22)).cell? ⟨u.val.heap.size, 0, none⟩ = some (.int .i64 m) := q0 (Later.self ((u.val.alloc (.cells #[.int .i64 m, .slice a l.length cap] 24)).alloc (.cells #[.slice b m capb] 22)))
  have z1 : ((u.val.alloc (.cells #[.int .i64 m, .slice a l.length cap] 24)).alloc (.cells #[.slice b m capb] 22)).cell? ⟨u.val.heap.size, 1, none⟩ = some (.slice a l.length cap) := q1 (Later.self ((u.val.alloc (.cells #[.int .i64 m, .slice a l.length cap] 24)).alloc (.cells #[.slice b m capb] 22)))
  have z2 : ((u.val.alloc (.cells #[.int .i64 m, .slice a l.length cap] 24)).alloc (.cells #[.slice b m capb] 22)).cell? ⟨(u.val.alloc (.cells #[.int .i64 m, .slice a l.length cap] 24)).heap.size, 0, none⟩ = some (.slice b m capb) := q2 (Later.self ((u.val.alloc (.cells #[.int .i64 m, .slice a l.length cap] 24)).alloc (.cells #[.slice b m capb] 22)))
  have HV : Hid (∀ v : Later ((u.val.alloc (.cells #[.int .i64 m, .slice a l.length cap] 24)).alloc (.cells #[.slice b m capb] 22)).heap.size ((u.val.alloc (.cells #[.int .i64 m, .slice a l.length cap] 24)).alloc (.cells #[.slice b m capb] 22)), ∃ w : Later B W, w.val = v.val) := Lib.hid (fun v => ⟨((u.alloc _).alloc _).up v, rfl⟩)
  have hgz := hr1
  rw [e1] at q2 z2 hgz
  clear T0 T1 T0' e1 hr1 h hw hZl hZw
  go_enter Try.func82, Try.ntmps82
  go_upto_region 4 with (first | (go_at_call 186; (with_reducible refine (KW.out).mono ?_); rintro e _ ⟨rfl, v1, rfl⟩))
  clear z0 z1 z2 KW
  have s0 : ∀ w : Later v1.val.heap.size v1.val, w.val.cell? ⟨u.val.heap.size, 0, none⟩ = some (.int .i64 m) := fun w => q0 (v1.up w)
  have s1 : ∀ w : Later v1.val.heap.size v1.val, w.val.cell? ⟨u.val.heap.size, 1, none⟩ = some (.slice a l.length cap) := fun w => q1 (v1.up w)
  have s2 : ∀ w : Later v1.val.heap.size v1.val, w.val.cell? ⟨u.val.heap.size + 1, 0, none⟩ = some (.slice b m capb) := fun w => q2 (v1.up w)
  have HV1 : Hid (∀ v : Later v1.val.heap.size v1.val, ∃ w : Later B W, w.val = v.val) := Lib.hid (fun v => HV.out (v1.up v))
  have HL1 : Hid (IntsAt v1.val.heap.size v1.val a l) := Lib.hid (HZl.out.to v1)
  have HW1 : Hid (IntsAt v1.val.heap.size v1.val b ws) := Lib.hid (HZw.out.to v1)
  have hgw : u.val.heap.size + 1 < v1.val.heap.size := Nat.lt_of_lt_of_le hgz v1.size
  clear q0 q1 q2 HV HZl HZw hgz
  generalize u.val.heap.size = g0 at *
  generalize v1.val = V at *
  clear v1 u
  have HsV : Hid (V.cell? ⟨g0 + 1, 0, none⟩ = some (.slice b m capb)) := Lib.hid (s2 (Later.self V))
  have hmk := mk_tab m (by omega)
  have s0V : V.cell? ⟨g0, 0, none⟩ = some (.int .i64 m) := s0 (Later.self V)
  go_upto_region 5 with fail
  clear s0V hmk
  have HT0 : Hid (ITab (V.alloc (.cells (madeCells #[Value.int .i64 0] m) 3)) V.heap.size m (fun t => if t < 0 then (t : Int) else 0)) := Lib.hid ((ITab.made V m).congr (fun t _ => by rw [if_neg (Nat.not_lt_zero _)]))
  obtain ⟨y, hy⟩ : ∃ w : Later V.heap.size V, w.val = V.alloc (.cells (madeCells #[Value.int .i64 0] m) 3) := ⟨(Later.self V).alloc _, rfl⟩
  rw [← hy] at HT0 ⊢
  clear hy
  have Hgw := Lib.hid hgw
  clear hgw
  generalize hgd : V.heap.size = gd at *
  have Hgd := Lib.hid hgd
  clear hgd
  go_wp2
  go_loopw [22] (fun i wr => ∃ (k : Nat) (v : Later gd V), k ≤ m ∧ i = .int .i64 k ∧ wr = v.val ∧ Hid (ITab v.val gd m (fun t => if t < k then (t : Int) else 0))) (fun i _ => m - (intOf i).toNat)
  case atStart => exact ⟨0, y, by omega, rfl, rfl, HT0⟩
  case round =>
    clear y HT0
    obtain ⟨k, v, hk, rfl, rfl, HT⟩ := hrel
    by_cases hlt : k < m
    · have c1 : ∀ w : Later v.val.heap.size v.val, w.val.frozen? ⟨gd, k, none⟩ = false := fun w => (HT.out.keep w.below).frozen k
      have c1' : v.val.frozen? ⟨gd, k, none⟩ = false := HT.out.frozen k
      have c2' : v.val.cell? ⟨gd, k, none⟩ = some (.int .i64 (if k < k then (k : Int) else 0)) := HT.out.cell hlt
      go_wp2
      go_roundw
      case rel => exact ⟨k+1, v.set ⟨gd, k, none⟩ (Nat.le_refl _) _, by omega, by go_num, rfl, Lib.hid (HT.out.set k (k : Int) (fun t _ => by
        by_cases c : t = k
        · subst c; rw [if_pos (Nat.lt_succ_self _), if_pos rfl]
        · rw [if_neg c]
          by_cases c2 : t < k
          · rw [if_pos c2, if_pos (by omega)]
          · rw [if_neg c2, if_neg (by omega)]))⟩
      case measure => simp [intOf]; omega
    · have hke : k = m := by omega
      subst hke
      have HT2 : Hid (ITab v.val gd k (fun t => (tblW (fun i => ws.getD i 0) 0 t : Int))) := Lib.hid (HT.out.congr (fun t ht => by
        rw [if_pos ht]; unfold tblW; rw [if_neg (Nat.not_lt_zero _)]))
      have KS := Lib.hid (c_stable v k gd (g0 + 1) hm (Nat.le_refl _) Hgw.out ws b capb HW1.out hwl HsV.out HT2.out)
      clear HT HT2
      go_upto_region 11 with (first | (go_at_call 187; (with_reducible refine (KS.out).mono ?_); rintro e _ ⟨rfl, v2, rfl, hT⟩))
      have HI2 : Hid (IntsAt v2.val.heap.size v2.val (some ⟨gd, 0, none⟩) (ints (rkd (fun i => ws.getD i 0) k))) := Lib.hid (by
        have := hT.ints
        rwa [tblW_list] at this)
      have hrl : (ints (rkd (fun i => ws.getD i 0) k)).length = k := by rw [ints_len, rkd_len]
      have hrm : ∀ j, j < k → (rkd (fun i => ws.getD i 0) k).getD j 0 < k := fun j hj => by
        exact (rkd_mem _ _ k).1 (getD_memN (by rw [rkd_len]; exact hj))
      have KT : Hid (Calls Try.prog 190 #[.agg #[.int .i64 k, .slice a l.length cap], .slice (some ⟨gd, 0, none⟩) k k] v2.val (Ret v2.val.heap.size v2.val (.int .i64 (takTo (toN l) (rkd (fun i => ws.getD i 0) k) k)))) := Lib.hid (by
        have := c_taken (Later.self v2.val) k hm l (rkd (fun i => ws.getD i 0) k) a (some ⟨gd, 0, none⟩) cap k (HL1.out.to v2) hlen he HI2.out (rkd_len _ _) hrm
        rwa [hrl] at this)
      have hs8 := takTo_lt (L := toN l) hrm k (Nat.le_refl _)
      have KSm : Hid (∀ w : Later v2.val.heap.size v2.val, Calls Try.prog 191 #[.slice b k capb, .int .i64 ((takTo (toN l) (rkd (fun i => ws.getD i 0) k) k : Nat) : Int)] w.val (Ret w.val.heap.size w.val (.int .i64 (wsT (fun i => ws.getD i 0) (takTo (toN l) (rkd (fun i => ws.getD i 0) k) k) k)))) := Lib.hid (fun w => by
        have := c_greedySum (Later.self w.val) k (takTo (toN l) (rkd (fun i => ws.getD i 0) k) k) hm (by omega) ws b capb ((HW1.out.to v2).to w) hp
        rwa [hwl] at this)
      have s0' : v2.val.cell? ⟨g0, 0, none⟩ = some (.int .i64 k) := s0 v2
      have s1' : v2.val.cell? ⟨g0, 1, none⟩ = some (.slice a l.length cap) := s1 v2
      have s2' : ∀ w : Later v2.val.heap.size v2.val, w.val.cell? ⟨g0 + 1, 0, none⟩ = some (.slice b k capb) := fun w => s2 (v2.up w)
      clear KS hT hrl hrm HI2
      generalize hGe : takTo (toN l) (rkd (fun i => ws.getD i 0) k) k = G at *
      generalize hSe : wsT (fun i => ws.getD i 0) G k = S at *
      have HGe := Lib.hid hGe
      have HSe := Lib.hid hSe
      clear hGe hSe
      go_wp2_with (first | (go_at_call 190; (with_reducible refine (KT.out).mono ?_); rintro e _ ⟨rfl, v3, rfl⟩) | (go_at_call 191; (with_reducible refine (KSm.out v3).mono ?_); rintro e _ ⟨rfl, v4, rfl⟩))
      go_ret3
      exact Ret.of (HV1.out ((v2.up v3).up v4)) (by rw [HGe.out, HSe.out]; rfl)

end Go.Proofs.Ytjpcelldbhdneaa
