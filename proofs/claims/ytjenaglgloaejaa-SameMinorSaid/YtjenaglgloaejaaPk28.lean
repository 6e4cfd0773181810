
/-
  same.Isomorphic.
  rotaref.Image, slices.Equal.
-/
import Derived.Test.YtjenaglgloaejaaPk23
import Derived.Test.YtjenaglgloaejaaPk12
import Derived.Test.YtjenaglgloaejaaPk02
import Derived.Test.YtjenaglgloaejaaPk13
namespace Go.Proofs.Ytjenaglgloaejaa
open Go.RowKit
set_option linter.unusedVariables false

/-- the first order that makes the one of the other -/
def isoF (n1 n2 : Nat) (l1 l2 : List Int) : Option (List Nat) := if n1 = n2 ∧ l1.length = l2.length then (ords n1 (toN l1) (toN l2)).head? else none
/-- what same.Isomorphic answers -/
def IsoAns (r : Option (List Nat)) (v : Value) (w : World) : Prop := (r = none ∧ v = .tuple #[.slice none 0 0, .int .i64 5]) ∨ ∃ q ad cp, r = some q ∧ v = .tuple #[.slice ad q.length cp, .int .i64 0] ∧ Reads w.heap.size w (.slice ad q.length cp) (ints q)

set_option maxRecDepth 100000 in
set_option maxHeartbeats 8000000 in
theorem c_sameIso_no {B : Nat} {W : World} (u : Later B W) (n1 n2 : Int) (l1 l2 : List Int) (a b : Option Addr) (cap capb : Nat) (h1 : IntsAt B W a l1) (h2 : IntsAt B W b l2) (hlen1 : l1.length ≤ 4611686018427387904) (hlen2 : l2.length ≤ 4611686018427387904) (e1 e2 er : Int) (he1 : MatIs n1 l1 e1) (he2 : MatIs n2 l2 e2) (hc : (e1 ≠ 0 ∧ er = e1) ∨ (e1 = 0 ∧ e2 ≠ 0 ∧ er = e2)) :
    Calls Try.prog 16 #[.agg #[.int .i64 n1, .slice a l1.length cap], .agg #[.int .i64 n2, .slice b l2.length capb]] u.val (Ret B W (.tuple #[.slice none 0 0, .int .i64 er])) := by
  have hs1 : (u.val.alloc (.cells #[.int .i64 n1, .slice a l1.length cap] 24)).heap.size = u.val.heap.size + 1 := by simp
  have HA : Hid (RowL ((u.val.alloc (.cells #[.int .i64 n1, .slice a l1.length cap] 24)).alloc (.cells #[.int .i64 n2, .slice b l2.length capb] 24)) u.val.heap.size 24 [.int .i64 n1, .slice a l1.length cap]) := Lib.hid ((RowL.new _ _ _).keep ((Below.refl _ _).alloc (Nat.le_refl _) _))
  have HB2 : Hid (RowL ((u.val.alloc (.cells #[.int .i64 n1, .slice a l1.length cap] 24)).alloc (.cells #[.int .i64 n2, .slice b l2.length capb] 24)) (u.val.heap.size + 1) 24 [.int .i64 n2, .slice b l2.length capb]) := Lib.hid (by
    have := RowL.new (u.val.alloc (.cells #[.int .i64 n1, .slice a l1.length cap] 24)) 24 [.int .i64 n2, .slice b l2.length capb]
    rwa [hs1] at this)
  have HVY : Hid (∀ v : Later ((u.val.alloc (.cells #[.int .i64 n1, .slice a l1.length cap] 24)).alloc (.cells #[.int .i64 n2, .slice b l2.length capb] 24)).heap.size ((u.val.alloc (.cells #[.int .i64 n1, .slice a l1.length cap] 24)).alloc (.cells #[.int .i64 n2, .slice b l2.length capb] 24)), ∃ w : Later B W, w.val = v.val) := Lib.hid (fun v => ⟨((u.alloc _).alloc _).up v, rfl⟩)
  have I1 : Hid (IntsAt ((u.val.alloc (.cells #[.int .i64 n1, .slice a l1.length cap] 24)).alloc (.cells #[.int .i64 n2, .slice b l2.length capb] 24)).heap.size ((u.val.alloc (.cells #[.int .i64 n1, .slice a l1.length cap] 24)).alloc (.cells #[.int .i64 n2, .slice b l2.length capb] 24)) a l1) := Lib.hid (h1.to ((u.alloc _).alloc _))
  have I2 : Hid (IntsAt ((u.val.alloc (.cells #[.int .i64 n1, .slice a l1.length cap] 24)).alloc (.cells #[.int .i64 n2, .slice b l2.length capb] 24)).heap.size ((u.val.alloc (.cells #[.int .i64 n1, .slice a l1.length cap] 24)).alloc (.cells #[.int .i64 n2, .slice b l2.length capb] 24)) b l2) := Lib.hid (h2.to ((u.alloc _).alloc _))
  obtain ⟨en, hen⟩ : ∃ en : Int → List Int → Int, ∀ n l, MatIs n l (en n l) := ⟨fun n l => Classical.choose (MatIs.ex n l), fun n l => Classical.choose_spec (MatIs.ex n l)⟩
  have uq : ∀ n l e, MatIs n l e → en n l = e := fun n l e h => by
    have h2 := hen n l
    by_cases c : okM n l
    · by_cases d : Exch (toN l)
      · rw [h.2.2 c d, h2.2.2 c d]
      · rw [h.2.1 c d, h2.2.1 c d]
    · rw [h.1 c, h2.1 c]
  have KC := Lib.hid (fun (v : Later ((u.val.alloc (.cells #[.int .i64 n1, .slice a l1.length cap] 24)).alloc (.cells #[.int .i64 n2, .slice b l2.length capb] 24)).heap.size ((u.val.alloc (.cells #[.int .i64 n1, .slice a l1.length cap] 24)).alloc (.cells #[.int .i64 n2, .slice b l2.length capb] 24))) (n' : Int) (l' : List Int) (a' : Option Addr) (c' : Nat) (h' : IntsAt ((u.val.alloc (.cells #[.int .i64 n1, .slice a l1.length cap] 24)).alloc (.cells #[.int .i64 n2, .slice b l2.length capb] 24)).heap.size ((u.val.alloc (.cells #[.int .i64 n1, .slice a l1.length cap] 24)).alloc (.cells #[.int .i64 n2, .slice b l2.length capb] 24)) a' l') (hl : l'.length ≤ 4611686018427387904) => c_axCheck v n' l' a' c' (en n' l') h' hl (hen n' l'))
  have E1 := uq _ _ _ he1
  have E2 := uq _ _ _ he2
  have HC := Lib.hid hc
  clear h1 h2 he1 he2 hs1 hc uq hen
  go_enter Try.func16, Try.ntmps16
  go_upto_region 1 with fail
  generalize ((u.val.alloc (.cells #[.int .i64 n1, .slice a l1.length cap] 24)).alloc (.cells #[.int .i64 n2, .slice b l2.length capb] 24)) = Y at *
  generalize u.val.heap.size = g at *
  obtain ⟨y, hy⟩ : ∃ y : Later Y.heap.size Y, y.val = Y := ⟨Later.self _, rfl⟩
  have q0 : ∀ w : Later Y.heap.size Y, w.val.cell? ⟨g, 0, none⟩ = some (.int .i64 n1) := fun w => (HA.out.keep w.below).cell rfl
  have q1 : ∀ w : Later Y.heap.size Y, w.val.cell? ⟨g, 1, none⟩ = some (.slice a l1.length cap) := fun w => (HA.out.keep w.below).cell rfl
  have q2 : ∀ w : Later Y.heap.size Y, w.val.cell? ⟨g + 1, 0, none⟩ = some (.int .i64 n2) := fun w => (HB2.out.keep w.below).cell rfl
  have q3 : ∀ w : Later Y.heap.size Y, w.val.cell? ⟨g + 1, 1, none⟩ = some (.slice b l2.length capb) := fun w => (HB2.out.keep w.below).cell rfl
  rw [← hy]
  clear hy
  refine wp_region_later y (by kernel_rfl) (by kernel_rfl) (fun _ => ?_)
  repeat (first | go_big_quiet_step ((go_at_call 22; exact KC.out _ _ _ _ _ (by first | exact I1.out | exact I2.out) (by first | exact hlen1 | exact hlen2))) | (refine wpQuiet_step (fun K hK => ?_); go_simp; refine ⟨_, fun _ => rfl, ?_⟩; refine hK _ ?_; clear hK K))
  refine wpQuiet_nil ?_
  intro y
  have z0 : ((0 : Int) != 0) = false := rfl
  rcases HC.out with ⟨g1, rfl⟩ | ⟨rfl, g1, rfl⟩
  · have d0 : (er != 0) = true := by rw [bne_iff_ne]; exact g1
    clear HC
    go_wp2
    go_ret2
    exact Ret.of (HVY.out y) (by first | rfl | (rw [E1]; rfl))
  · have d0 : (er != 0) = true := by rw [bne_iff_ne]; exact g1
    clear HC
    go_wp2
    go_ret2
    exact Ret.of (HVY.out y) (by first | rfl | (rw [E2]; rfl))

set_option maxRecDepth 100000 in
set_option maxHeartbeats 16000000 in
theorem c_sameIso {B : Nat} {W : World} (u : Later B W) (n1 n2 : Nat) (l1 l2 : List Int) (a b : Option Addr) (cap capb : Nat) (h1 : IntsAt B W a l1) (h2 : IntsAt B W b l2) (hlen1 : l1.length ≤ 4611686018427387904) (hlen2 : l2.length ≤ 4611686018427387904) (he1 : MatIs (n1 : Int) l1 0) (he2 : MatIs (n2 : Int) l2 0) :
    Calls Try.prog 16 #[.agg #[.int .i64 n1, .slice a l1.length cap], .agg #[.int .i64 n2, .slice b l2.length capb]] u.val (RetP B W (IsoAns (isoF n1 n2 l1 l2))) := by
  have hn1 : n1 ≤ 8 := by have := he1.ok.1.1.2.1; omega
  have hs1 : (u.val.alloc (.cells #[.int .i64 n1, .slice a l1.length cap] 24)).heap.size = u.val.heap.size + 1 := by simp
  have HA : Hid (RowL ((u.val.alloc (.cells #[.int .i64 n1, .slice a l1.length cap] 24)).alloc (.cells #[.int .i64 n2, .slice b l2.length capb] 24)) u.val.heap.size 24 [.int .i64 n1, .slice a l1.length cap]) := Lib.hid ((RowL.new _ _ _).keep ((Below.refl _ _).alloc (Nat.le_refl _) _))
  have HB2 : Hid (RowL ((u.val.alloc (.cells #[.int .i64 n1, .slice a l1.length cap] 24)).alloc (.cells #[.int .i64 n2, .slice b l2.length capb] 24)) (u.val.heap.size + 1) 24 [.int .i64 n2, .slice b l2.length capb]) := Lib.hid (by
    have := RowL.new (u.val.alloc (.cells #[.int .i64 n1, .slice a l1.length cap] 24)) 24 [.int .i64 n2, .slice b l2.length capb]
    rwa [hs1] at this)
  have HVY : Hid (∀ v : Later ((u.val.alloc (.cells #[.int .i64 n1, .slice a l1.length cap] 24)).alloc (.cells #[.int .i64 n2, .slice b l2.length capb] 24)).heap.size ((u.val.alloc (.cells #[.int .i64 n1, .slice a l1.length cap] 24)).alloc (.cells #[.int .i64 n2, .slice b l2.length capb] 24)), ∃ w : Later B W, w.val = v.val) := Lib.hid (fun v => ⟨((u.alloc _).alloc _).up v, rfl⟩)
  have I1 : Hid (IntsAt ((u.val.alloc (.cells #[.int .i64 n1, .slice a l1.length cap] 24)).alloc (.cells #[.int .i64 n2, .slice b l2.length capb] 24)).heap.size ((u.val.alloc (.cells #[.int .i64 n1, .slice a l1.length cap] 24)).alloc (.cells #[.int .i64 n2, .slice b l2.length capb] 24)) a l1) := Lib.hid (h1.to ((u.alloc _).alloc _))
  have I2 : Hid (IntsAt ((u.val.alloc (.cells #[.int .i64 n1, .slice a l1.length cap] 24)).alloc (.cells #[.int .i64 n2, .slice b l2.length capb] 24)).heap.size ((u.val.alloc (.cells #[.int .i64 n1, .slice a l1.length cap] 24)).alloc (.cells #[.int .i64 n2, .slice b l2.length capb] 24)) b l2) := Lib.hid (h2.to ((u.alloc _).alloc _))
  obtain ⟨en, hen⟩ : ∃ en : Int → List Int → Int, ∀ n l, MatIs n l (en n l) := ⟨fun n l => Classical.choose (MatIs.ex n l), fun n l => Classical.choose_spec (MatIs.ex n l)⟩
  have E1 : en n1 l1 = 0 := (hen n1 l1).2.2 he1.ok.1 he1.ok.2
  have E2 : en n2 l2 = 0 := (hen n2 l2).2.2 he2.ok.1 he2.ok.2
  have KC := Lib.hid (fun (v : Later ((u.val.alloc (.cells #[.int .i64 n1, .slice a l1.length cap] 24)).alloc (.cells #[.int .i64 n2, .slice b l2.length capb] 24)).heap.size ((u.val.alloc (.cells #[.int .i64 n1, .slice a l1.length cap] 24)).alloc (.cells #[.int .i64 n2, .slice b l2.length capb] 24))) (n' : Int) (l' : List Int) (a' : Option Addr) (c' : Nat) (h' : IntsAt ((u.val.alloc (.cells #[.int .i64 n1, .slice a l1.length cap] 24)).alloc (.cells #[.int .i64 n2, .slice b l2.length capb] 24)).heap.size ((u.val.alloc (.cells #[.int .i64 n1, .slice a l1.length cap] 24)).alloc (.cells #[.int .i64 n2, .slice b l2.length capb] 24)) a' l') (hl : l'.length ≤ 4611686018427387904) => c_axCheck v n' l' a' c' (en n' l') h' hl (hen n' l'))
  have HM1 := Lib.hid he1
  have HM2 := Lib.hid he2
  clear h1 h2 he1 he2 hs1 hen
  go_enter Try.func16, Try.ntmps16
  go_upto_region 1 with fail
  generalize ((u.val.alloc (.cells #[.int .i64 n1, .slice a l1.length cap] 24)).alloc (.cells #[.int .i64 n2, .slice b l2.length capb] 24)) = Y at *
  generalize u.val.heap.size = g at *
  obtain ⟨y, hy⟩ : ∃ y : Later Y.heap.size Y, y.val = Y := ⟨Later.self _, rfl⟩
  have q0 : ∀ w : Later Y.heap.size Y, w.val.cell? ⟨g, 0, none⟩ = some (.int .i64 n1) := fun w => (HA.out.keep w.below).cell rfl
  have q1 : ∀ w : Later Y.heap.size Y, w.val.cell? ⟨g, 1, none⟩ = some (.slice a l1.length cap) := fun w => (HA.out.keep w.below).cell rfl
  have q2 : ∀ w : Later Y.heap.size Y, w.val.cell? ⟨g + 1, 0, none⟩ = some (.int .i64 n2) := fun w => (HB2.out.keep w.below).cell rfl
  have q3 : ∀ w : Later Y.heap.size Y, w.val.cell? ⟨g + 1, 1, none⟩ = some (.slice b l2.length capb) := fun w => (HB2.out.keep w.below).cell rfl
  rw [← hy]
  clear hy
  refine wp_region_later y (by kernel_rfl) (by kernel_rfl) (fun _ => ?_)
  repeat (first | go_big_quiet_step ((go_at_call 22; exact KC.out _ _ _ _ _ (by first | exact I1.out | exact I2.out) (by first | exact hlen1 | exact hlen2))) | (refine wpQuiet_step (fun K hK => ?_); go_simp; refine ⟨_, fun _ => rfl, ?_⟩; refine hK _ ?_; clear hK K))
  refine wpQuiet_nil ?_
  intro y
  rw [E1, E2]
  clear KC HA HB2 u E1 E2 en
  have z0 : ((0 : Int) != 0) = false := rfl
  go_upto_region 8 with fail
  have hZs : ((y.val.alloc (.cells #[.slice none 0 0] 22)).alloc (.cells #[.bool false] 4)).heap.size = y.val.heap.size + 2 := by simp
  have R1 : Hid (RowAt1 ((y.val.alloc (.cells #[.slice none 0 0] 22)).alloc (.cells #[.bool false] 4)) y.val.heap.size 22 (.slice none 0 0)) := Lib.hid (row1_under (heap_alloc_new _ _) _)
  have R2 : Hid (RowAt1 ((y.val.alloc (.cells #[.slice none 0 0] 22)).alloc (.cells #[.bool false] 4)) (y.val.heap.size + 1) 4 (.bool false)) := Lib.hid (by
    have h := heap_alloc_new (y.val.alloc (.cells #[.slice none 0 0] 22)) (.cells #[.bool false] 4)
    rw [show (y.val.alloc (.cells #[.slice none 0 0] 22)).heap.size = y.val.heap.size + 1 by simp] at h
    exact h)
  obtain ⟨x, hx⟩ : ∃ x : Later Y.heap.size Y, x.val = ((y.val.alloc (.cells #[.slice none 0 0] 22)).alloc (.cells #[.bool false] 4)) := ⟨(y.alloc _).alloc _, rfl⟩
  have hys := y.size
  rw [← hx] at R1 R2 hZs ⊢
  clear hx
  generalize hbo : y.val.heap.size = bo at *
  clear hbo y
  have p0 := q0 x
  have p1 := q1 x
  have p2 := q2 x
  have p3 := q3 x
  by_cases hnn : n1 = n2
  case neg =>
    have d1 : ((n1 : Int) == (n2 : Int)) = false := by rw [beq_eq_false_iff_ne]; omega
    have HF : Hid (isoF n1 n2 l1 l2 = none) := Lib.hid (if_neg (fun h => hnn h.1))
    have c0 := R2.out.c0
    clear hnn
    go_wp2
    go_ret2
    exact RetP.of (HVY.out x) (.inl ⟨HF.out, rfl⟩)
  subst hnn
  have d1 : ((n1 : Int) == (n1 : Int)) = true := by simp
  by_cases hll : l1.length = l2.length
  case neg =>
    have d2 : ((l1.length : Int) == (l2.length : Int)) = false := by rw [beq_eq_false_iff_ne]; omega
    have d3 : (l1.length == l2.length) = false := by rw [beq_eq_false_iff_ne]; exact hll
    have HF : Hid (isoF n1 n1 l1 l2 = none) := Lib.hid (if_neg (fun h => hll h.2))
    have c0 := R2.out.c0
    clear hll
    go_wp2
    go_ret2
    exact RetP.of (HVY.out x) (.inl ⟨HF.out, rfl⟩)
  have HF : Hid (isoF n1 n1 l1 l2 = (ords n1 (toN l1) (toN l2)).head?) := Lib.hid (if_pos ⟨rfl, hll⟩)
  have K := Lib.hid (c_each (Later.self x.val) n1 hn1 l1 l2 a b cap capb (I1.out.to x) (I2.out.to x) hlen1 hlen2 HM1.out HM2.out (fun k => k = bo ∨ k = bo + 1) (fun k hk => by have := hZs; show k < x.val.heap.size; omega) false 46 #[.pointer (some ⟨bo, 0, none⟩), .pointer (some ⟨bo + 1, 0, none⟩)] (IsoI bo (bo + 1))
    (fun bp W' h1 h2 h3 => iso_do W'.heap.size bp W' n1 bo (bo + 1) hn1 h2 (by have := hZs; have : x.val.heap.size ≤ bp := h1; omega) (by have := hZs; have : x.val.heap.size ≤ bp := h1; omega) (by omega))
    (fun bp w h1 h2 => ⟨(fun g hg => by cases hg), fun _ => ⟨R1.out.keep h2, R2.out.keep h2⟩, (fun q l' h => by cases h)⟩))
  have d2 : ((l1.length : Int) == (l2.length : Int)) = true := by rw [beq_iff_eq]; omega
  have d3 : (l1.length == l2.length) = true := by rw [beq_iff_eq]; exact hll
  have hp1 : ∀ (args : Array Value) (w : World), (callFunc 46 args).run Try.prog w = .ok (.enter 46 args) w := fun _ _ => by kernel_rfl
  have HVX : Hid (∀ v : Off x.val.heap.size (fun k => k = bo ∨ k = bo + 1) x.val, ∃ w : Later B W, w.val = v.val) := Lib.hid (fun v => by
    have hb := v.below (B0 := Y.heap.size) x.size (fun k hk => by omega)
    obtain ⟨w, hw⟩ := HVY.out (x.to v.val hb)
    exact ⟨w, hw⟩)
  have hll2 := Lib.hid hll
  clear I1 I2 HM1 HM2 R1 R2 hll
  generalize ords n1 (toN l1) (toN l2) = F at *
  dsimp only [Later.self] at K
  cases F with
  | nil =>
    have K2 : Hid (Calls Try.prog 45 #[.agg #[.int .i64 n1, .slice a l1.length cap], .agg #[.int .i64 n1, .slice b l2.length capb], .func (.func 46) #[] #[.pointer (some ⟨bo, 0, none⟩), .pointer (some ⟨bo + 1, 0, none⟩)]] x.val (fun e w' => e = .returned (.tuple #[]) ∧ ∃ v' : Off x.val.heap.size (fun k => k = bo ∨ k = bo + 1) x.val, w' = v'.val ∧ v'.val.cell? ⟨bo + 1, 0, none⟩ = some (.bool false))) := Lib.hid (K.out.mono (by
      rintro e _ ⟨rfl, v', rfl, bp, o, hbp, hI⟩
      exact ⟨rfl, v', rfl, (hI.no rfl).2.c0⟩))
    clear K
    go_wp2_with (first | (go_at_call 45; (with_reducible refine (K2.out).mono ?_); rintro e _ ⟨rfl, v', rfl, c0⟩) | fail)
    go_ret2
    exact RetP.of (HVX.out v') (.inl ⟨HF.out, rfl⟩)
  | cons q F' =>
    have K2 : Hid (Calls Try.prog 45 #[.agg #[.int .i64 n1, .slice a l1.length cap], .agg #[.int .i64 n1, .slice b l2.length capb], .func (.func 46) #[] #[.pointer (some ⟨bo, 0, none⟩), .pointer (some ⟨bo + 1, 0, none⟩)]] x.val (fun e w' => e = .returned (.tuple #[]) ∧ ∃ v' : Off x.val.heap.size (fun k => k = bo ∨ k = bo + 1) x.val, w' = v'.val ∧ v'.val.cell? ⟨bo + 1, 0, none⟩ = some (.bool true) ∧ ∃ ar cr, v'.val.cell? ⟨bo, 0, none⟩ = some (.slice ar q.length cr) ∧ Reads v'.val.heap.size v'.val (.slice ar q.length cr) (ints q))) := Lib.hid (K.out.mono (by
      rintro e _ ⟨rfl, v', rfl, bp, o, hbp, hI⟩
      obtain ⟨ar, cr, h1, h2, h3⟩ := hI.yes q [] rfl
      refine ⟨rfl, v', rfl, h3.c0, ar, cr, h1.c0, ?_⟩
      have := Reads.mk h2.ints h2.nil
      rwa [ints_len] at this))
    clear K
    go_wp2_with (first | (go_at_call 45; (with_reducible refine (K2.out).mono ?_); rintro e _ ⟨rfl, v', rfl, c0, ar, cr, c1, hR⟩; have HR := Lib.hid hR; clear hR) | fail)
    go_ret2
    exact RetP.of (HVX.out v') (.inr ⟨q, ar, cr, HF.out, rfl, HR.out⟩)
end Go.Proofs.Ytjenaglgloaejaa

namespace Go.Proofs.Ytjenaglgloaejaa
open Go.RowKit
set_option linter.unusedVariables false

/-- the image of the first k elements of a list -/
def imgE (q E : List Nat) : Nat → Nat
  | 0 => 0
  | k + 1 => imgE q E k ||| bit (q.getD (E.getD k 0) 0)
theorem imgE_testBit (q E : List Nat) (j : Nat) : ∀ k, (imgE q E k).testBit j = true ↔ ∃ t, t < k ∧ q.getD (E.getD t 0) 0 = j := by
  intro k
  induction k with
  | zero => simp [imgE]
  | succ k ih =>
    simp only [imgE]
    rw [or_bit_testBit, Bool.or_eq_true, ih, decide_eq_true_eq]
    constructor
    · rintro (⟨t, h1, h2⟩ | h)
      · exact ⟨t, by omega, h2⟩
      · exact ⟨k, by omega, h⟩
    · rintro ⟨t, h1, h2⟩
      by_cases e : t = k
      · subst e; exact .inr h2
      · exact .inl ⟨t, by omega, h2⟩
theorem imgE_all {q : List Nat} {s : Nat} (h8 : q.length ≤ 8) (hs : s < bit q.length) : imgE q (elems s) (elems s).length = img q s := by
  apply Nat.eq_of_testBit_eq
  intro j
  rw [Bool.eq_iff_iff, imgE_testBit, img_testBit]
  have hm : ∀ i, i ∈ elems s ↔ i < 8 ∧ s.testBit i = true := fun i => by
    unfold elems
    rw [List.mem_filter, List.mem_range]
  constructor
  · rintro ⟨t, h1, h2⟩
    have h3 : (elems s).getD t 0 ∈ elems s := by simp [h1]
    have h4 := (hm _).1 h3
    refine ⟨(elems s).getD t 0, ?_, h4.2, h2⟩
    by_cases c : (elems s).getD t 0 < q.length
    · exact c
    · rw [bit_hi hs (by omega)] at h4; cases h4.2
  · rintro ⟨i, h1, h2, h3⟩
    obtain ⟨t, ht, e⟩ := List.getElem_of_mem ((hm i).2 ⟨by omega, h2⟩)
    exact ⟨t, ht, by rw [show (elems s).getD t 0 = i by simp [ht, e]]; exact h3⟩
theorem imgE_lt {q E : List Nat} {k : Nat} (h : ∀ t, t < k → q.getD (E.getD t 0) 0 < 8) : imgE q E k < 256 := by
  induction k with
  | zero => show 0 < 256; omega
  | succ k ih =>
    simp only [imgE]
    exact or_lt _ _ (ih (fun t ht => h t (by omega))) (by have := bit_lt _ (h k (by omega)); omega)

set_option maxRecDepth 100000 in
set_option maxHeartbeats 8000000 in
theorem c_image {B : Nat} {W : World} (u : Later B W) (p : List Nat) (s : Nat) (hs : s < bit p.length) (a : Option Addr) (cap : Nat) (h : IntsAt B W a (ints p)) (h8 : ∀ i, i < p.length → p.getD i 0 < 8) (hlen : p.length ≤ 8) :
    Calls Try.prog 40 #[.slice a p.length cap, .int .i64 s] u.val (Ret B W (.int .i64 (img p s))) := by
  have hb := bit_le p.length hlen
  have KE := Lib.hid (c_elements u s (by omega))
  have HEm : Hid (∀ j, j < (elems s).length → (elems s).getD j 0 < p.length) := Lib.hid (fun j hj => by
    have h3 : (elems s).getD j 0 ∈ elems s := by simp [hj]
    have h4 : (elems s).getD j 0 < 8 ∧ s.testBit ((elems s).getD j 0) = true := by
      unfold elems at h3
      rw [List.mem_filter, List.mem_range] at h3
      exact h3
    by_cases c : (elems s).getD j 0 < p.length
    · exact c
    · rw [bit_hi hs (by omega)] at h4; cases h4.2)
  have HA : Hid (imgE p (elems s) (elems s).length = img p s) := Lib.hid (imgE_all hlen hs)
  have H8 := Lib.hid h8
  have HW := Lib.hid h
  have hx8 : (elems s).length ≤ 8 := sz_le s
  have HSt : Hid (∀ k, imgE p (elems s) (k + 1) = imgE p (elems s) k ||| bit (p.getD ((elems s).getD k 0) 0)) := Lib.hid (fun k => rfl)
  have H0 : Hid (imgE p (elems s) 0 = 0) := Lib.hid rfl
  have HLt : Hid (∀ k, k ≤ (elems s).length → imgE p (elems s) k < 256) := Lib.hid (fun k hk => imgE_lt (fun t ht => h8 _ (HEm.out t (by omega))))
  rw [← HA.out]
  clear h h8 hs HA
  generalize imgE p (elems s) = T at *
  generalize elems s = E at *
  have hil : (ints E).length = E.length := ints_len E
  go_enter Try.func40, Try.ntmps40
  go_upto_region 3 with (first | (go_at_call 58; (with_reducible refine (KE.out).mono ?_); rintro e _ ⟨_, rfl, ⟨ad, cp, rfl, hI, _⟩, v1, rfl⟩))
  try rw [hil]
  have HI : Hid (IntsAt v1.val.heap.size v1.val ad (ints E)) := Lib.hid hI
  have HW1 : Hid (IntsAt v1.val.heap.size v1.val a (ints p)) := Lib.hid ((HW.out.later v1.below).mono v1.size)
  have HV : Hid (∀ y : Later v1.val.heap.size v1.val, ∃ w : Later B W, w.val = y.val) := Lib.hid (fun y => ⟨v1.up y, rfl⟩)
  obtain ⟨y, hy⟩ : ∃ y : Later v1.val.heap.size v1.val, y.val = v1.val := ⟨Later.self _, rfl⟩
  rw [← hy]
  clear hy KE HW hI u
  generalize v1.val = V at *
  clear v1
  have Hil := Lib.hid hil
  clear hil
  go_wp2
  go_loopw [6, 7] (fun o i wr => ∃ (k : Nat) (v : Later V.heap.size V), k ≤ E.length ∧ o = .int .i64 (T k) ∧ i = .int .i64 k ∧ wr = v.val) (fun _ i _ => E.length - (intOf i).toNat)
  case atStart => exact ⟨0, y, by omega, by rw [H0.out]; rfl, rfl, rfl⟩
  case round =>
    clear y
    obtain ⟨k, v, hk, rfl, rfl, rfl⟩ := hrel
    by_cases hlt : k < E.length
    · obtain ⟨be, oe, rfl, hbe, hce⟩ := HI.out.at (k := k) (by rw [Hil.out]; exact hlt)
      have c0 : v.val.cell? ⟨be, oe + k, none⟩ = some (.int .i64 ((E.getD k 0 : Nat) : Int)) := by rw [← ints_getD]; exact hce v k (by rw [Hil.out]; exact hlt)
      have hx := HEm.out k hlt
      obtain ⟨bb, off, rfl, hbB, hcell⟩ := HW1.out.at (k := E.getD k 0) (by rw [ints_len]; exact hx)
      have c1 : v.val.cell? ⟨bb, off + E.getD k 0, none⟩ = some (.int .i64 ((p.getD (E.getD k 0) 0 : Nat) : Int)) := by rw [← ints_getD]; exact hcell v _ (by rw [ints_len]; exact hx)
      have hx8' := H8.out _ hx
      have ht := HLt.out k hk
      have HN := Lib.hid (HSt.out k)
      clear hcell hce
      generalize E.getD k 0 = x at *
      generalize p.getD x 0 = z at *
      generalize T k = tk at *
      have bz := bit_cast z
      have hbz := bit_lt z hx8'
      have w1 := IntWalk.i64_in (bit z : Int) (by omega)
      have o1 := i64_or tk (bit z) (by omega) (by omega)
      generalize hton : tk ||| bit z = tn at *
      have HTon := Lib.hid hton
      clear hton
      go_wp2
      go_roundw
      case rel => exact ⟨k+1, v, by omega, vint (by rw [HN.out]), by go_num, rfl⟩
      case measure => simp [intOf]; omega
    · have hke : k = E.length := by omega
      subst hke
      go_wp2
      go_ret
      exact Ret.of (HV.out v) rfl

set_option maxRecDepth 100000 in
set_option maxHeartbeats 8000000 in
theorem c_equalI {B : Nat} {W : World} (u : Later B W) (n : Nat) (f g : Nat → Int) (a b : Option Addr) (cap capb : Nat) (h1 : IntsAt B W a (tabL n f)) (h2 : IntsAt B W b (tabL n g)) (hn : n ≤ 1048576) (r : Bool) (hr : r = true ↔ ∀ t, t < n → f t = g t) :
    Calls Try.prog 67 #[.slice a n cap, .slice b n capb] u.val (Ret B W (.bool r)) := by
  have H1 := Lib.hid h1
  have H2 := Lib.hid h2
  have HR := Lib.hid hr
  have d0 : ((n : Int) != (n : Int)) = false := by simp
  clear h1 h2 hr
  go_enter Try.func67, Try.ntmps67
  go_wp2
  go_loopw [13] (fun i wr => ∃ (k : Nat) (v : Later B W), k ≤ n ∧ i = .int .i64 k ∧ wr = v.val ∧ Hid (∀ t, t < k → f t = g t)) (fun i _ => n - (intOf i).toNat)
  case atStart => exact ⟨0, u, by omega, rfl, rfl, Lib.hid (fun t ht => by omega)⟩
  case round =>
    clear u
    obtain ⟨k, v, hk, rfl, rfl, HN⟩ := hrel
    by_cases hlt : k < n
    · obtain ⟨b1, o1, rfl, hb1, hc1⟩ := H1.out.at (k := k) (by rw [tabL_len]; exact hlt)
      obtain ⟨b2, o2, rfl, hb2, hc2⟩ := H2.out.at (k := k) (by rw [tabL_len]; exact hlt)
      have c1 : ∀ w : Later B W, w.val.cell? ⟨b1, o1 + k, none⟩ = some (.int .i64 (f k)) := fun w => by rw [← tabL_getD (A := f) hlt]; exact hc1 w k (by rw [tabL_len]; exact hlt)
      have c2 : ∀ w : Later B W, w.val.cell? ⟨b2, o2 + k, none⟩ = some (.int .i64 (g k)) := fun w => by rw [← tabL_getD (A := g) hlt]; exact hc2 w k (by rw [tabL_len]; exact hlt)
      have HY : Hid (f k = g k → ∀ t, t < k + 1 → f t = g t) := Lib.hid (fun h t ht => by
        by_cases e : t = k
        · subst e; exact h
        · exact HN.out t (by omega))
      have HNo : Hid (f k ≠ g k → r = false) := Lib.hid (fun h => by
        cases hrr : r
        · rfl
        · exact absurd (HR.out.1 hrr k hlt) h)
      clear hc1 hc2
      generalize f k = x at *
      generalize g k = z at *
      rcases ieq x z with ⟨hc, e1, e2⟩ | ⟨hc, e1, e2⟩
      · have HN2 := Lib.hid (HY.out hc)
        clear HY HNo hc HN
        go_upto_region 6 with fail
        refine wp_region_later v (by kernel_rfl) (by kernel_rfl) (fun _ => ?_)
        repeat (first | go_big_quiet_step ((fail)) | (refine wpQuiet_step (fun K hK => ?_); go_simp; refine ⟨_, fun _ => rfl, ?_⟩; refine hK _ ?_; clear hK K))
        refine wpQuiet_nil ?_
        intro v
        go_wp2
        go_roundw
        case rel => exact ⟨k + 1, v, by omega, by go_num, by first | rfl | trivial, HN2⟩
        case measure => simp [intOf]; omega
      · have HF := Lib.hid (HNo.out hc)
        clear HY HNo hc HN
        go_upto_region 6 with fail
        refine wp_region_later v (by kernel_rfl) (by kernel_rfl) (fun _ => ?_)
        repeat (first | go_big_quiet_step ((fail)) | (refine wpQuiet_step (fun K hK => ?_); go_simp; refine ⟨_, fun _ => rfl, ?_⟩; refine hK _ ?_; clear hK K))
        refine wpQuiet_nil ?_
        intro v
        go_wp2
        go_ret
        exact Ret.mk v (vbool HF.out.symm)
    · have hke : k = n := by omega
      subst hke
      have HT : Hid (r = true) := Lib.hid (HR.out.2 HN.out)
      go_wp2
      go_ret
      exact Ret.mk v (vbool HT.out.symm)
end Go.Proofs.Ytjenaglgloaejaa
