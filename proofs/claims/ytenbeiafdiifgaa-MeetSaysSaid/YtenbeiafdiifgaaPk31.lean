
/-
  meet.Spanned where both are matroids.
-/
import Derived.Test.YtenbeiafdiifgaaPk30
import Derived.Deep.CutRange
namespace Go.Proofs.Ytenbeiafdiifgaa
open Go.RowKit
set_option linter.unusedVariables false

/-- what joins: the set grows -/
theorem spn_more {n : Nat} {x y : Nat → Nat} {S s i : Nat} (hx : RkM n x) (hy : RkM n y) (hs : s < bit n) (hi : i < n) (h1 : sub S s) (h2 : ∀ u, u < bit n → sub S u → Shut2 n x y u → sub s u) (h : x (s ||| bit i) = x s ∨ y (s ||| bit i) = y s) :
    sub S (s ||| bit i) ∧ ∀ u, u < bit n → sub S u → Shut2 n x y u → sub (s ||| bit i) u :=
  ⟨fun k hk => by rw [Nat.testBit_or, h1 k hk]; rfl, fun u hu hS hC => shut_step hx hy hs hu hi (h2 u hu hS hC) hC h⟩
def msrS (s ok : Value) : Nat := match ok with
  | .bool true => 10 - sz (intOf s).toNat
  | _ => 0

set_option maxRecDepth 100000 in
set_option maxHeartbeats 16000000 in
theorem c_mtSpanned_bad {B : Nat} {W : World} (u : Later B W) (n : Nat) (hn : n ≤ 8) (l1 l2 : List Int) (a b : Option Addr) (cap capb : Nat) (h1 : IntsAt B W a l1) (h2 : IntsAt B W b l2) (hlen1 : l1.length ≤ 4611686018427387904) (hlen2 : l2.length ≤ 4611686018427387904) (he1 : MatIs (n : Int) l1 0) (he2 : MatIs (n : Int) l2 0) (sv : Int) (hs : ¬ isSet n sv) :
    Calls Try.prog 15 #[.agg #[.int .i64 n, .slice a l1.length cap], .agg #[.int .i64 n, .slice b l2.length capb], .int .i64 sv] u.val (Ret B W (.tuple #[.int .i64 0, .int .i64 1])) := by
  have HSv := Lib.hid hs
  clear hs
  have hbn := bit_le n hn
  have hs1 : (u.val.alloc (.cells #[.int .i64 n, .slice a l1.length cap] 24)).heap.size = u.val.heap.size + 1 := by simp
  have HA : Hid (RowL ((u.val.alloc (.cells #[.int .i64 n, .slice a l1.length cap] 24)).alloc (.cells #[.int .i64 n, .slice b l2.length capb] 24)) u.val.heap.size 24 [.int .i64 n, .slice a l1.length cap]) := Lib.hid ((RowL.new _ _ _).keep ((Below.refl _ _).alloc (Nat.le_refl _) _))
  have HB2 : Hid (RowL ((u.val.alloc (.cells #[.int .i64 n, .slice a l1.length cap] 24)).alloc (.cells #[.int .i64 n, .slice b l2.length capb] 24)) (u.val.heap.size + 1) 24 [.int .i64 n, .slice b l2.length capb]) := Lib.hid (by
    have := RowL.new (u.val.alloc (.cells #[.int .i64 n, .slice a l1.length cap] 24)) 24 [.int .i64 n, .slice b l2.length capb]
    rwa [hs1] at this)
  have HVY : Hid (∀ v : Later ((u.val.alloc (.cells #[.int .i64 n, .slice a l1.length cap] 24)).alloc (.cells #[.int .i64 n, .slice b l2.length capb] 24)).heap.size ((u.val.alloc (.cells #[.int .i64 n, .slice a l1.length cap] 24)).alloc (.cells #[.int .i64 n, .slice b l2.length capb] 24)), ∃ w : Later B W, w.val = v.val) := Lib.hid (fun v => ⟨((u.alloc _).alloc _).up v, rfl⟩)
  have I1 : Hid (IntsAt ((u.val.alloc (.cells #[.int .i64 n, .slice a l1.length cap] 24)).alloc (.cells #[.int .i64 n, .slice b l2.length capb] 24)).heap.size ((u.val.alloc (.cells #[.int .i64 n, .slice a l1.length cap] 24)).alloc (.cells #[.int .i64 n, .slice b l2.length capb] 24)) a l1) := Lib.hid (h1.to ((u.alloc _).alloc _))
  have I2 : Hid (IntsAt ((u.val.alloc (.cells #[.int .i64 n, .slice a l1.length cap] 24)).alloc (.cells #[.int .i64 n, .slice b l2.length capb] 24)).heap.size ((u.val.alloc (.cells #[.int .i64 n, .slice a l1.length cap] 24)).alloc (.cells #[.int .i64 n, .slice b l2.length capb] 24)) b l2) := Lib.hid (h2.to ((u.alloc _).alloc _))
  have KB : Hid (Calls Try.prog 23 #[.agg #[.int .i64 n, .slice a l1.length cap], .agg #[.int .i64 n, .slice b l2.length capb]] ((u.val.alloc (.cells #[.int .i64 n, .slice a l1.length cap] 24)).alloc (.cells #[.int .i64 n, .slice b l2.length capb] 24)) (Ret ((u.val.alloc (.cells #[.int .i64 n, .slice a l1.length cap] 24)).alloc (.cells #[.int .i64 n, .slice b l2.length capb] 24)).heap.size ((u.val.alloc (.cells #[.int .i64 n, .slice a l1.length cap] 24)).alloc (.cells #[.int .i64 n, .slice b l2.length capb] 24)) (.int .i64 0))) := Lib.hid (c_mtBoth (Later.self _) n n l1 l2 a b cap capb 0 0 0 I1.out I2.out hlen1 hlen2 he1 he2 (.inr (.inr (.inr ⟨rfl, rfl, rfl, rfl⟩))))
  have KX : Hid (∀ v : Later ((u.val.alloc (.cells #[.int .i64 n, .slice a l1.length cap] 24)).alloc (.cells #[.int .i64 n, .slice b l2.length capb] 24)).heap.size ((u.val.alloc (.cells #[.int .i64 n, .slice a l1.length cap] 24)).alloc (.cells #[.int .i64 n, .slice b l2.length capb] 24)), Calls Try.prog 24 #[.agg #[.int .i64 n, .slice a l1.length cap]] v.val (RetP v.val.heap.size v.val (fun x w => ∃ g c, x = .slice (some ⟨g, 0, none⟩) (bit n) c ∧ ITab w g (bit n) (fun j => (rk (toN l1) j : Int))))) := Lib.hid (fun v => c_mtRanks (Later.self v.val) n hn l1 a cap (I1.out.to v) hlen1 he1)
  have KY : Hid (∀ v : Later ((u.val.alloc (.cells #[.int .i64 n, .slice a l1.length cap] 24)).alloc (.cells #[.int .i64 n, .slice b l2.length capb] 24)).heap.size ((u.val.alloc (.cells #[.int .i64 n, .slice a l1.length cap] 24)).alloc (.cells #[.int .i64 n, .slice b l2.length capb] 24)), Calls Try.prog 24 #[.agg #[.int .i64 n, .slice b l2.length capb]] v.val (RetP v.val.heap.size v.val (fun x w => ∃ g c, x = .slice (some ⟨g, 0, none⟩) (bit n) c ∧ ITab w g (bit n) (fun j => (rk (toN l2) j : Int))))) := Lib.hid (fun v => c_mtRanks (Later.self v.val) n hn l2 b capb (I2.out.to v) hlen2 he2)
  have HX : Hid (RkM n (rk (toN l1))) := Lib.hid (rkM_of_mat he1.ok.1 he1.ok.2)
  have HY : Hid (RkM n (rk (toN l2))) := Lib.hid (rkM_of_mat he2.ok.1 he2.ok.2)
  clear h1 h2 he1 he2 hs1 I1 I2
  generalize rk (toN l1) = X at *
  generalize rk (toN l2) = Y at *
  go_enter Try.func15, Try.ntmps15
  go_upto_region 1 with fail
  generalize ((u.val.alloc (.cells #[.int .i64 n, .slice a l1.length cap] 24)).alloc (.cells #[.int .i64 n, .slice b l2.length capb] 24)) = A at *
  generalize u.val.heap.size = g at *
  have q0 : ∀ w : Later A.heap.size A, w.val.cell? ⟨g, 0, none⟩ = some (.int .i64 n) := fun w => (HA.out.keep w.below).cell rfl
  have q1 : ∀ w : Later A.heap.size A, w.val.cell? ⟨g, 1, none⟩ = some (.slice a l1.length cap) := fun w => (HA.out.keep w.below).cell rfl
  have q2 : ∀ w : Later A.heap.size A, w.val.cell? ⟨g + 1, 0, none⟩ = some (.int .i64 n) := fun w => (HB2.out.keep w.below).cell rfl
  have q3 : ∀ w : Later A.heap.size A, w.val.cell? ⟨g + 1, 1, none⟩ = some (.slice b l2.length capb) := fun w => (HB2.out.keep w.below).cell rfl
  have p0 := q0 (Later.self A)
  have p1 := q1 (Later.self A)
  have p2 := q2 (Later.self A)
  have p3 := q3 (Later.self A)
  simp only [Later.self] at p0 p1 p2 p3
  have z0 : ((0 : Int) != 0) = false := rfl
  clear u HA HB2
  generalize g + 1 = g' at *
  go_upto_region 4 with (first | (go_at_call 23; (with_reducible refine (KB.out).mono ?_); rintro e _ ⟨rfl, y, rfl⟩) | fail)
  clear p0 p1 p2 p3 KB
  have q0y := q0 y
  have bc := bit_cast n
  have w1 := IntWalk.i64_in (bit n : Int) (by omega)
  have hE : sv < 0 ∨ ((bit n : Nat) : Int) ≤ sv := by
    have := HSv.out
    unfold isSet at this
    rw [all_nat] at this
    omega
  clear HSv HX HY KX KY
  rcases ilt sv 0 with ⟨g3, d3⟩ | ⟨g3, d3⟩
  · go_wp2
    go_ret2
    exact Ret.of (HVY.out y) rfl
  · rcases ile (bit n) sv with ⟨g4, d4⟩ | ⟨g4, d4⟩
    · go_wp2
      go_ret2
      exact Ret.of (HVY.out y) rfl
    · exfalso; omega

set_option maxRecDepth 100000 in
set_option maxHeartbeats 16000000 in
theorem c_mtSpanned {B : Nat} {W : World} (u : Later B W) (n : Nat) (hn : n ≤ 8) (l1 l2 : List Int) (a b : Option Addr) (cap capb : Nat) (h1 : IntsAt B W a l1) (h2 : IntsAt B W b l2) (hlen1 : l1.length ≤ 4611686018427387904) (hlen2 : l2.length ≤ 4611686018427387904) (he1 : MatIs (n : Int) l1 0) (he2 : MatIs (n : Int) l2 0) (S : Nat) (hS : S < bit n) :
    Calls Try.prog 15 #[.agg #[.int .i64 n, .slice a l1.length cap], .agg #[.int .i64 n, .slice b l2.length capb], .int .i64 S] u.val (RetP B W (fun v w => ∃ r : Nat, v = .tuple #[.int .i64 r, .int .i64 0] ∧ LeastS n (rk (toN l1)) (rk (toN l2)) S r)) := by
  have hbn := bit_le n hn
  have hs1 : (u.val.alloc (.cells #[.int .i64 n, .slice a l1.length cap] 24)).heap.size = u.val.heap.size + 1 := by simp
  have HA : Hid (RowL ((u.val.alloc (.cells #[.int .i64 n, .slice a l1.length cap] 24)).alloc (.cells #[.int .i64 n, .slice b l2.length capb] 24)) u.val.heap.size 24 [.int .i64 n, .slice a l1.length cap]) := Lib.hid ((RowL.new _ _ _).keep ((Below.refl _ _).alloc (Nat.le_refl _) _))
  have HB2 : Hid (RowL ((u.val.alloc (.cells #[.int .i64 n, .slice a l1.length cap] 24)).alloc (.cells #[.int .i64 n, .slice b l2.length capb] 24)) (u.val.heap.size + 1) 24 [.int .i64 n, .slice b l2.length capb]) := Lib.hid (by
    have := RowL.new (u.val.alloc (.cells #[.int .i64 n, .slice a l1.length cap] 24)) 24 [.int .i64 n, .slice b l2.length capb]
    rwa [hs1] at this)
  have HVY : Hid (∀ v : Later ((u.val.alloc (.cells #[.int .i64 n, .slice a l1.length cap] 24)).alloc (.cells #[.int .i64 n, .slice b l2.length capb] 24)).heap.size ((u.val.alloc (.cells #[.int .i64 n, .slice a l1.length cap] 24)).alloc (.cells #[.int .i64 n, .slice b l2.length capb] 24)), ∃ w : Later B W, w.val = v.val) := Lib.hid (fun v => ⟨((u.alloc _).alloc _).up v, rfl⟩)
  have I1 : Hid (IntsAt ((u.val.alloc (.cells #[.int .i64 n, .slice a l1.length cap] 24)).alloc (.cells #[.int .i64 n, .slice b l2.length capb] 24)).heap.size ((u.val.alloc (.cells #[.int .i64 n, .slice a l1.length cap] 24)).alloc (.cells #[.int .i64 n, .slice b l2.length capb] 24)) a l1) := Lib.hid (h1.to ((u.alloc _).alloc _))
  have I2 : Hid (IntsAt ((u.val.alloc (.cells #[.int .i64 n, .slice a l1.length cap] 24)).alloc (.cells #[.int .i64 n, .slice b l2.length capb] 24)).heap.size ((u.val.alloc (.cells #[.int .i64 n, .slice a l1.length cap] 24)).alloc (.cells #[.int .i64 n, .slice b l2.length capb] 24)) b l2) := Lib.hid (h2.to ((u.alloc _).alloc _))
  have KB : Hid (Calls Try.prog 23 #[.agg #[.int .i64 n, .slice a l1.length cap], .agg #[.int .i64 n, .slice b l2.length capb]] ((u.val.alloc (.cells #[.int .i64 n, .slice a l1.length cap] 24)).alloc (.cells #[.int .i64 n, .slice b l2.length capb] 24)) (Ret ((u.val.alloc (.cells #[.int .i64 n, .slice a l1.length cap] 24)).alloc (.cells #[.int .i64 n, .slice b l2.length capb] 24)).heap.size ((u.val.alloc (.cells #[.int .i64 n, .slice a l1.length cap] 24)).alloc (.cells #[.int .i64 n, .slice b l2.length capb] 24)) (.int .i64 0))) := Lib.hid (c_mtBoth (Later.self _) n n l1 l2 a b cap capb 0 0 0 I1.out I2.out hlen1 hlen2 he1 he2 (.inr (.inr (.inr ⟨rfl, rfl, rfl, rfl⟩))))
  have KX : Hid (∀ v : Later ((u.val.alloc (.cells #[.int .i64 n, .slice a l1.length cap] 24)).alloc (.cells #[.int .i64 n, .slice b l2.length capb] 24)).heap.size ((u.val.alloc (.cells #[.int .i64 n, .slice a l1.length cap] 24)).alloc (.cells #[.int .i64 n, .slice b l2.length capb] 24)), Calls Try.prog 24 #[.agg #[.int .i64 n, .slice a l1.length cap]] v.val (RetP v.val.heap.size v.val (fun x w => ∃ g c, x = .slice (some ⟨g, 0, none⟩) (bit n) c ∧ ITab w g (bit n) (fun j => (rk (toN l1) j : Int))))) := Lib.hid (fun v => c_mtRanks (Later.self v.val) n hn l1 a cap (I1.out.to v) hlen1 he1)
  have KY : Hid (∀ v : Later ((u.val.alloc (.cells #[.int .i64 n, .slice a l1.length cap] 24)).alloc (.cells #[.int .i64 n, .slice b l2.length capb] 24)).heap.size ((u.val.alloc (.cells #[.int .i64 n, .slice a l1.length cap] 24)).alloc (.cells #[.int .i64 n, .slice b l2.length capb] 24)), Calls Try.prog 24 #[.agg #[.int .i64 n, .slice b l2.length capb]] v.val (RetP v.val.heap.size v.val (fun x w => ∃ g c, x = .slice (some ⟨g, 0, none⟩) (bit n) c ∧ ITab w g (bit n) (fun j => (rk (toN l2) j : Int))))) := Lib.hid (fun v => c_mtRanks (Later.self v.val) n hn l2 b capb (I2.out.to v) hlen2 he2)
  have HX : Hid (RkM n (rk (toN l1))) := Lib.hid (rkM_of_mat he1.ok.1 he1.ok.2)
  have HY : Hid (RkM n (rk (toN l2))) := Lib.hid (rkM_of_mat he2.ok.1 he2.ok.2)
  clear h1 h2 he1 he2 hs1 I1 I2
  generalize rk (toN l1) = X at *
  generalize rk (toN l2) = Y at *
  go_enter Try.func15, Try.ntmps15
  go_upto_region 1 with fail
  generalize ((u.val.alloc (.cells #[.int .i64 n, .slice a l1.length cap] 24)).alloc (.cells #[.int .i64 n, .slice b l2.length capb] 24)) = A at *
  generalize u.val.heap.size = g at *
  have q0 : ∀ w : Later A.heap.size A, w.val.cell? ⟨g, 0, none⟩ = some (.int .i64 n) := fun w => (HA.out.keep w.below).cell rfl
  have q1 : ∀ w : Later A.heap.size A, w.val.cell? ⟨g, 1, none⟩ = some (.slice a l1.length cap) := fun w => (HA.out.keep w.below).cell rfl
  have q2 : ∀ w : Later A.heap.size A, w.val.cell? ⟨g + 1, 0, none⟩ = some (.int .i64 n) := fun w => (HB2.out.keep w.below).cell rfl
  have q3 : ∀ w : Later A.heap.size A, w.val.cell? ⟨g + 1, 1, none⟩ = some (.slice b l2.length capb) := fun w => (HB2.out.keep w.below).cell rfl
  have p0 := q0 (Later.self A)
  have p1 := q1 (Later.self A)
  have p2 := q2 (Later.self A)
  have p3 := q3 (Later.self A)
  simp only [Later.self] at p0 p1 p2 p3
  have z0 : ((0 : Int) != 0) = false := rfl
  clear u HA HB2
  generalize g + 1 = g' at *
  go_upto_region 4 with (first | (go_at_call 23; (with_reducible refine (KB.out).mono ?_); rintro e _ ⟨rfl, y, rfl⟩) | fail)
  clear p0 p1 p2 p3 KB
  have q0y := q0 y
  have bc := bit_cast n
  have w1 := IntWalk.i64_in (bit n : Int) (by omega)
  have d3 : decide ((S : Int) < 0) = false := decide_eq_false (by omega)
  have d4 : decide ((bit n : Int) ≤ S) = false := decide_eq_false (by omega)
  have d5 : decide (bit n ≤ S) = false := decide_eq_false (by omega)
  go_upto_region 6 with fail
  clear d3 d4 d5 bc w1
  clear q0y
  have s0 : ∀ w : Later A.heap.size A, w.val.cell? ⟨g, 0, none⟩ = some (.int .i64 n) ∧ w.val.cell? ⟨g, 1, none⟩ = some (.slice a l1.length cap) ∧ w.val.cell? ⟨g', 0, none⟩ = some (.int .i64 n) ∧ w.val.cell? ⟨g', 1, none⟩ = some (.slice b l2.length capb) := fun w => ⟨q0 w, q1 w, q2 w, q3 w⟩
  have KX1 : Hid (Calls Try.prog 24 #[.agg #[.int .i64 n, .slice a l1.length cap]] y.val.drew (RetP y.val.drew.heap.size y.val.drew (fun x w => ∃ g c, x = .slice (some ⟨g, 0, none⟩) (bit n) c ∧ ITab w g (bit n) (fun j => (X j : Int))))) := Lib.hid (KX.out y.drew)
  have KY1 : Hid (∀ v1 : Later y.val.drew.heap.size y.val.drew, Calls Try.prog 24 #[.agg #[.int .i64 n, .slice b l2.length capb]] v1.val (RetP v1.val.heap.size v1.val (fun x w => ∃ g c, x = .slice (some ⟨g, 0, none⟩) (bit n) c ∧ ITab w g (bit n) (fun j => (Y j : Int))))) := Lib.hid (fun v1 => KY.out (y.drew.up v1))
  have HVy : Hid (∀ v1 : Later y.val.drew.heap.size y.val.drew, ∃ w : Later A.heap.size A, w.val = v1.val) := Lib.hid (fun v1 => ⟨y.drew.up v1, rfl⟩)
  have s00 := s0 y
  have s01 : ∀ v1 : Later y.val.drew.heap.size y.val.drew, v1.val.cell? ⟨g, 0, none⟩ = some (.int .i64 n) ∧ v1.val.cell? ⟨g, 1, none⟩ = some (.slice a l1.length cap) ∧ v1.val.cell? ⟨g', 0, none⟩ = some (.int .i64 n) ∧ v1.val.cell? ⟨g', 1, none⟩ = some (.slice b l2.length capb) := fun v1 => s0 (y.drew.up v1)
  clear s0 q1 q2 q3 KX KY
  go_region_held3 (fun w' => w'.cell? ⟨g, 0, none⟩ = some (.int .i64 n) ∧ w'.cell? ⟨g, 1, none⟩ = some (.slice a l1.length cap) ∧ w'.cell? ⟨g', 0, none⟩ = some (.int .i64 n) ∧ w'.cell? ⟨g', 1, none⟩ = some (.slice b l2.length capb)) (first | exact s00 | exact s01 (v1.up v2) | exact s01 v1 | fail) (first | (go_at_call 24; (with_reducible refine (KX1.out).mono ?_); rintro e _ ⟨_, rfl, ⟨gx, cx, rfl, hTx⟩, v1, rfl⟩) | (go_at_call 24; (with_reducible refine (KY1.out v1).mono ?_); rintro e _ ⟨_, rfl, ⟨gy, cy, rfl, hTy⟩, v2, rfl⟩) | fail)
  have HTx := Lib.hid (hTx.keep v2.below)
  have HTy := Lib.hid hTy
  obtain ⟨C, hC⟩ : ∃ C, C = v2.val := ⟨_, rfl⟩
  have HVC : Hid (∀ v : Later C.heap.size C, ∃ w : Later A.heap.size A, w.val = v.val) := Lib.hid (fun v => by subst hC; exact HVy.out ((v1.up v2).up v))
  have qc : ∀ w : Later C.heap.size C, w.val.cell? ⟨g, 0, none⟩ = some (.int .i64 n) := fun w => by
    obtain ⟨x, hx⟩ := HVC.out w
    rw [← hx]; exact q0 x
  have HVA : Hid (∀ v : Later C.heap.size C, ∃ w : Later B W, w.val = v.val) := Lib.hid (fun v => by
    obtain ⟨x, hx⟩ := HVC.out v
    rw [← hx]; exact HVY.out x)
  rw [← hC] at HTx HTy ⊢
  have hgx := HTx.out.lt
  have hgy := HTy.out.lt
  clear hTx hTy s00 s01 q0 HVy KX1 KY1
  obtain ⟨z, hz⟩ : ∃ z : Later C.heap.size C, z.val = C := ⟨Later.self _, rfl⟩
  rw [← hz]
  rw [← hz] at hC
  clear hz
  have HKC := Lib.hid hC
  clear hC
  go_wp2
  go_loopw [2, 11] (fun sv ok wr => ∃ (s : Nat) (o : Bool) (v : Later C.heap.size C), sv = .int .i64 s ∧ ok = .bool o ∧ wr = v.val ∧ s < bit n ∧ Hid (sub S s) ∧ Hid (∀ u, u < bit n → sub S u → Shut2 n X Y u → sub s u) ∧ Hid (o = false → Shut2 n X Y s)) (fun s ok _ => msrS s ok)
  case atStart => exact ⟨S, true, z, rfl, rfl, rfl, hS, Lib.hid (fun _ h => h), Lib.hid (fun u _ h _ => h), Lib.hid (fun h => by cases h)⟩
  case round =>
    clear HKC z
    obtain ⟨s, o, v, rfl, rfl, rfl, hs, H1, H2, H3⟩ := hrel
    cases o
    · have H4 := Lib.hid (H3.out rfl)
      clear H3
      go_wp2
      go_ret2
      exact RetP.of (HVA.out v) ⟨s, rfl, hs, H1.out, H4.out, H2.out⟩
    · clear H3
      have qv := qc v
      go_wp2
      go_loopw [2, 11, 35] (fun sv ok i wr => ∃ (k s1 : Nat) (o : Bool) (v : Later C.heap.size C), k ≤ n ∧ i = .int .i64 k ∧ sv = .int .i64 s1 ∧ ok = .bool o ∧ wr = v.val ∧ s1 < bit n ∧ Hid (sub S s1) ∧ Hid (∀ u, u < bit n → sub S u → Shut2 n X Y u → sub s1 u) ∧ Hid (o = true → sz s < sz s1) ∧ Hid (o = false → s1 = s ∧ ∀ j, j < k → s1.testBit j = false → X (s1 ||| bit j) ≠ X s1 ∧ Y (s1 ||| bit j) ≠ Y s1)) (fun _ _ i _ => n - (intOf i).toNat)
      case atStart => exact ⟨0, s, false, v, by omega, by first | rfl | go_num, rfl, rfl, rfl, hs, H1, H2, Lib.hid (fun h => by cases h), Lib.hid (fun _ => ⟨rfl, fun j hj => by omega⟩)⟩
      case round =>
        clear qv H1 H2
        obtain ⟨k, s1, o, v, hk, rfl, rfl, rfl, rfl, hs1, H1, H2, H5, H6⟩ := hrel
        by_cases hlt : k < n
        · have hbk := bit_lt k (by omega)
          have bc := bit_cast k
          have ib := i64_bit s1 k (by omega) (by omega)
          have w1 := IntWalk.i64_in (bit k : Int) (by omega)
          have o1 := i64_or s1 (bit k) (by omega) (by omega)
          have hor : s1 ||| bit k < bit n := or_lt_bit hs1 (bit_lt_bit hlt)
          have fx0 : ∀ w : Later C.heap.size C, w.val.cell? ⟨gx, s1, none⟩ = some (.int .i64 (X s1 : Int)) := fun w => (HTx.out.keep_at w.below hgx).cell hs1
          have fy0 : ∀ w : Later C.heap.size C, w.val.cell? ⟨gy, s1, none⟩ = some (.int .i64 (Y s1 : Int)) := fun w => (HTy.out.keep_at w.below hgy).cell hs1
          have fx1 : ∀ w : Later C.heap.size C, w.val.cell? ⟨gx, s1 ||| bit k, none⟩ = some (.int .i64 (X (s1 ||| bit k) : Int)) := fun w => (HTx.out.keep_at w.below hgx).cell hor
          have fy1 : ∀ w : Later C.heap.size C, w.val.cell? ⟨gy, s1 ||| bit k, none⟩ = some (.int .i64 (Y (s1 ||| bit k) : Int)) := fun w => (HTy.out.keep_at w.below hgy).cell hor
          have HG : Hid (s1.testBit k = false → X (s1 ||| bit k) = X s1 ∨ Y (s1 ||| bit k) = Y s1 → Hid (sub S (s1 ||| bit k)) ∧ Hid (∀ u, u < bit n → sub S u → Shut2 n X Y u → sub (s1 ||| bit k) u) ∧ Hid (true = true → sz s < sz (s1 ||| bit k))) := Lib.hid (fun gb h => by
            have hm := spn_more HX.out HY.out hs1 hlt H1.out H2.out h
            refine ⟨Lib.hid hm.1, Lib.hid hm.2, Lib.hid (fun _ => ?_)⟩
            have h9 := sz_add (show k < 8 by omega) gb
            cases o
            · have := (H6.out rfl).1; subst this; omega
            · have := H5.out rfl; omega)
          have HK : Hid ((s1.testBit k = false → X (s1 ||| bit k) ≠ X s1 ∧ Y (s1 ||| bit k) ≠ Y s1) → Hid (o = false → s1 = s ∧ ∀ j, j < k + 1 → s1.testBit j = false → X (s1 ||| bit j) ≠ X s1 ∧ Y (s1 ||| bit j) ≠ Y s1)) := Lib.hid (fun h => Lib.hid (fun ho => ⟨(H6.out ho).1, fun j hj hb => by
            by_cases e : j = k
            · subst e; exact h hb
            · exact (H6.out ho).2 j (by omega) hb⟩))
          rcases btf (s1.testBit k) with gb | gb
          · rw [gb] at ib
            have HN := HK.out (fun h => by rw [gb] at h; cases h)
            clear HG HK H6 gb
            generalize s1 ||| bit k = sb at *
            generalize X s1 = xa at fx0 ⊢
            generalize X sb = xb at fx1 ⊢
            generalize Y s1 = ya at fy0 ⊢
            generalize Y sb = yb at fy1 ⊢
            go_upto_region 13 with fail
            refine wp_region_later v (by kernel_rfl) (by kernel_rfl) (fun _ => ?_)
            repeat (first | go_big_quiet_step ((fail)) | (refine wpQuiet_step (fun K hK => ?_); go_simp; refine ⟨_, fun _ => rfl, ?_⟩; refine hK _ ?_; clear hK K))
            refine wpQuiet_nil ?_
            intro v
            go_wp2
            go_roundw
            case rel => exact ⟨k + 1, s1, o, v, by omega, by go_num, by trivial, by first | rfl | trivial, by first | rfl | trivial, hs1, H1, H2, H5, HN⟩
            case measure => simp [intOf]; omega
          · rw [gb] at ib
            have HG := Lib.hid (HG.out gb)
            have HK := Lib.hid (fun h => HK.out (fun _ => h))
            clear gb
            have d1 : ((X (s1 ||| bit k) : Int) == (X s1 : Int)) = true ∧ (X (s1 ||| bit k) == X s1) = true ∧ X (s1 ||| bit k) = X s1 ∨ ((X (s1 ||| bit k) : Int) == (X s1 : Int)) = false ∧ (X (s1 ||| bit k) == X s1) = false ∧ X (s1 ||| bit k) ≠ X s1 := by
              by_cases e : X (s1 ||| bit k) = X s1
              · left; exact ⟨by rw [beq_iff_eq]; omega, by rw [beq_iff_eq]; omega, e⟩
              · right; exact ⟨by rw [beq_eq_false_iff_ne]; omega, by rw [beq_eq_false_iff_ne]; omega, e⟩
            have d2 : ((Y (s1 ||| bit k) : Int) == (Y s1 : Int)) = true ∧ (Y (s1 ||| bit k) == Y s1) = true ∧ Y (s1 ||| bit k) = Y s1 ∨ ((Y (s1 ||| bit k) : Int) == (Y s1 : Int)) = false ∧ (Y (s1 ||| bit k) == Y s1) = false ∧ Y (s1 ||| bit k) ≠ Y s1 := by
              by_cases e : Y (s1 ||| bit k) = Y s1
              · left; exact ⟨by rw [beq_iff_eq]; omega, by rw [beq_iff_eq]; omega, e⟩
              · right; exact ⟨by rw [beq_eq_false_iff_ne]; omega, by rw [beq_eq_false_iff_ne]; omega, e⟩
            rcases d1 with ⟨d1, d1', ex⟩ | ⟨d1, d1', ex⟩
            · obtain ⟨J1, J2, J3⟩ := HG.out (.inl ex)
              clear HG HK H6 ex d2
              generalize hsb : s1 ||| bit k = sb at *
              clear hsb
              generalize X s1 = xa at fx0 d1 d1' ⊢
              generalize X sb = xb at fx1 d1 d1' ⊢
              generalize Y s1 = ya at fy0 ⊢
              generalize Y sb = yb at fy1 ⊢
              go_upto_region 13 with fail
              refine wp_region_later v (by kernel_rfl) (by kernel_rfl) (fun _ => ?_)
              repeat (first | go_big_quiet_step ((fail)) | (refine wpQuiet_step (fun K hK => ?_); go_simp; refine ⟨_, fun _ => rfl, ?_⟩; refine hK _ ?_; clear hK K))
              refine wpQuiet_nil ?_
              intro v
              go_wp2
              go_roundw
              case rel => exact ⟨k + 1, sb, true, v, by omega, by go_num, by trivial, by first | rfl | trivial, by first | rfl | trivial, hor, J1, J2, J3, Lib.hid (fun h => by cases h)⟩
              case measure => simp [intOf]; omega
            · rcases d2 with ⟨d2, d2', ey⟩ | ⟨d2, d2', ey⟩
              · obtain ⟨J1, J2, J3⟩ := HG.out (.inr ey)
                clear HG HK H6 ex ey
                generalize hsb : s1 ||| bit k = sb at *
                clear hsb
                generalize X s1 = xa at fx0 d1 d1' ⊢
                generalize X sb = xb at fx1 d1 d1' ⊢
                generalize Y s1 = ya at fy0 d2 d2' ⊢
                generalize Y sb = yb at fy1 d2 d2' ⊢
                go_upto_region 13 with fail
                refine wp_region_later v (by kernel_rfl) (by kernel_rfl) (fun _ => ?_)
                repeat (first | go_big_quiet_step ((fail)) | (refine wpQuiet_step (fun K hK => ?_); go_simp; refine ⟨_, fun _ => rfl, ?_⟩; refine hK _ ?_; clear hK K))
                refine wpQuiet_nil ?_
                intro v
                go_wp2
                go_roundw
                case rel => exact ⟨k + 1, sb, true, v, by omega, by go_num, by trivial, by first | rfl | trivial, by first | rfl | trivial, hor, J1, J2, J3, Lib.hid (fun h => by cases h)⟩
                case measure => simp [intOf]; omega
              · have HN := HK.out ⟨ex, ey⟩
                clear HG HK H6 ex ey
                generalize hsb : s1 ||| bit k = sb at *
                clear hsb
                generalize X s1 = xa at fx0 d1 d1' ⊢
                generalize X sb = xb at fx1 d1 d1' ⊢
                generalize Y s1 = ya at fy0 d2 d2' ⊢
                generalize Y sb = yb at fy1 d2 d2' ⊢
                go_upto_region 13 with fail
                refine wp_region_later v (by kernel_rfl) (by kernel_rfl) (fun _ => ?_)
                repeat (first | go_big_quiet_step ((fail)) | (refine wpQuiet_step (fun K hK => ?_); go_simp; refine ⟨_, fun _ => rfl, ?_⟩; refine hK _ ?_; clear hK K))
                refine wpQuiet_nil ?_
                intro v
                go_wp2
                go_roundw
                case rel => exact ⟨k + 1, s1, o, v, by omega, by go_num, by trivial, by first | rfl | trivial, by first | rfl | trivial, hs1, H1, H2, H5, HN⟩
                case measure => simp [intOf]; omega
        · have hke : k = n := by omega
          subst hke
          have HN : Hid (o = false → Shut2 k X Y s1) := Lib.hid (fun ho i hi hb => (H6.out ho).2 i hi hb)
          have h8 := sz_le s
          have h9 := sz_le s1
          have HM := Lib.hid H5.out
          clear H6
          go_wp2
          go_roundw
          case rel => exact ⟨s1, o, v, rfl, rfl, by first | rfl | trivial, hs1, H1, H2, HN⟩
          case measure =>
            cases o
            · simp [msrS, intOf]; omega
            · have := HM.out rfl
              simp [msrS, intOf]; omega
end Go.Proofs.Ytenbeiafdiifgaa
