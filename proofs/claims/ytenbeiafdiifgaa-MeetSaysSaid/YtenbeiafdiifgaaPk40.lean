
/-
  meet.Common where the two are not matroids of one number.
  meet.Spanned and meet.Heaviest where the two are not matroids of one number.
-/
import Derived.Test.YtenbeiafdiifgaaPk30
namespace Go.Proofs.Ytenbeiafdiifgaa
open Go.RowKit
set_option linter.unusedVariables false

set_option maxRecDepth 100000 in
set_option maxHeartbeats 8000000 in
theorem c_mtCommon_no {B : Nat} {W : World} (u : Later B W) (n1 n2 : Int) (l1 l2 : List Int) (a b : Option Addr) (cap capb : Nat) (e1 e2 er : Int) (h1 : IntsAt B W a l1) (h2 : IntsAt B W b l2) (hlen1 : l1.length ≤ 4611686018427387904) (hlen2 : l2.length ≤ 4611686018427387904) (he1 : MatIs n1 l1 e1) (he2 : MatIs n2 l2 e2) (hc : bothE n1 n2 e1 e2 er) (h0 : er ≠ 0) :
    Calls Try.prog 13 #[.agg #[.int .i64 n1, .slice a l1.length cap], .agg #[.int .i64 n2, .slice b l2.length capb]] u.val (Ret B W (.tuple #[.int .i64 0, .int .i64 0, .int .i64 er])) := by
  have hs1 : (u.val.alloc (.cells #[.int .i64 n1, .slice a l1.length cap] 24)).heap.size = u.val.heap.size + 1 := by simp
  have HA : Hid (RowL ((u.val.alloc (.cells #[.int .i64 n1, .slice a l1.length cap] 24)).alloc (.cells #[.int .i64 n2, .slice b l2.length capb] 24)) u.val.heap.size 24 [.int .i64 n1, .slice a l1.length cap]) := Lib.hid ((RowL.new _ _ _).keep ((Below.refl _ _).alloc (Nat.le_refl _) _))
  have HB2 : Hid (RowL ((u.val.alloc (.cells #[.int .i64 n1, .slice a l1.length cap] 24)).alloc (.cells #[.int .i64 n2, .slice b l2.length capb] 24)) (u.val.heap.size + 1) 24 [.int .i64 n2, .slice b l2.length capb]) := Lib.hid (by
    have := RowL.new (u.val.alloc (.cells #[.int .i64 n1, .slice a l1.length cap] 24)) 24 [.int .i64 n2, .slice b l2.length capb]
    rwa [hs1] at this)
  have HVY : Hid (∀ v : Later ((u.val.alloc (.cells #[.int .i64 n1, .slice a l1.length cap] 24)).alloc (.cells #[.int .i64 n2, .slice b l2.length capb] 24)).heap.size ((u.val.alloc (.cells #[.int .i64 n1, .slice a l1.length cap] 24)).alloc (.cells #[.int .i64 n2, .slice b l2.length capb] 24)), ∃ w : Later B W, w.val = v.val) := Lib.hid (fun v => ⟨((u.alloc _).alloc _).up v, rfl⟩)
  have KB : Hid (Calls Try.prog 23 #[.agg #[.int .i64 n1, .slice a l1.length cap], .agg #[.int .i64 n2, .slice b l2.length capb]] ((u.val.alloc (.cells #[.int .i64 n1, .slice a l1.length cap] 24)).alloc (.cells #[.int .i64 n2, .slice b l2.length capb] 24)) (Ret ((u.val.alloc (.cells #[.int .i64 n1, .slice a l1.length cap] 24)).alloc (.cells #[.int .i64 n2, .slice b l2.length capb] 24)).heap.size ((u.val.alloc (.cells #[.int .i64 n1, .slice a l1.length cap] 24)).alloc (.cells #[.int .i64 n2, .slice b l2.length capb] 24)) (.int .i64 er))) := Lib.hid (c_mtBoth (Later.self _) n1 n2 l1 l2 a b cap capb e1 e2 er (h1.to ((u.alloc _).alloc _)) (h2.to ((u.alloc _).alloc _)) hlen1 hlen2 he1 he2 hc)
  clear h1 h2 he1 he2 hs1 hc
  go_enter Try.func13, Try.ntmps13
  go_upto_region 1 with fail
  generalize ((u.val.alloc (.cells #[.int .i64 n1, .slice a l1.length cap] 24)).alloc (.cells #[.int .i64 n2, .slice b l2.length capb] 24)) = A at *
  generalize u.val.heap.size = g at *
  have p0 : A.cell? ⟨g, 0, none⟩ = some (.int .i64 n1) := HA.out.cell rfl
  have p1 : A.cell? ⟨g, 1, none⟩ = some (.slice a l1.length cap) := HA.out.cell rfl
  have p2 : A.cell? ⟨g + 1, 0, none⟩ = some (.int .i64 n2) := HB2.out.cell rfl
  have p3 : A.cell? ⟨g + 1, 1, none⟩ = some (.slice b l2.length capb) := HB2.out.cell rfl
  have d0 : (er != 0) = true := by rw [bne_iff_ne]; exact h0
  clear u HA HB2 h0
  go_wp2_with (first | (go_at_call 23; (with_reducible refine (KB.out).mono ?_); rintro e _ ⟨rfl, y, rfl⟩))
  go_ret3
  exact Ret.of (HVY.out y) rfl
end Go.Proofs.Ytenbeiafdiifgaa

namespace Go.Proofs.Ytenbeiafdiifgaa
open Go.RowKit
set_option linter.unusedVariables false

set_option maxRecDepth 100000 in
set_option maxHeartbeats 8000000 in
theorem c_mtSpanned_no {B : Nat} {W : World} (u : Later B W) (n1 n2 : Int) (l1 l2 : List Int) (a b : Option Addr) (cap capb : Nat) (e1 e2 er sv : Int) (h1 : IntsAt B W a l1) (h2 : IntsAt B W b l2) (hlen1 : l1.length ≤ 4611686018427387904) (hlen2 : l2.length ≤ 4611686018427387904) (he1 : MatIs n1 l1 e1) (he2 : MatIs n2 l2 e2) (hc : bothE n1 n2 e1 e2 er) (h0 : er ≠ 0) :
    Calls Try.prog 15 #[.agg #[.int .i64 n1, .slice a l1.length cap], .agg #[.int .i64 n2, .slice b l2.length capb], .int .i64 sv] u.val (Ret B W (.tuple #[.int .i64 0, .int .i64 er])) := by
  have hs1 : (u.val.alloc (.cells #[.int .i64 n1, .slice a l1.length cap] 24)).heap.size = u.val.heap.size + 1 := by simp
  have HA : Hid (RowL ((u.val.alloc (.cells #[.int .i64 n1, .slice a l1.length cap] 24)).alloc (.cells #[.int .i64 n2, .slice b l2.length capb] 24)) u.val.heap.size 24 [.int .i64 n1, .slice a l1.length cap]) := Lib.hid ((RowL.new _ _ _).keep ((Below.refl _ _).alloc (Nat.le_refl _) _))
  have HB2 : Hid (RowL ((u.val.alloc (.cells #[.int .i64 n1, .slice a l1.length cap] 24)).alloc (.cells #[.int .i64 n2, .slice b l2.length capb] 24)) (u.val.heap.size + 1) 24 [.int .i64 n2, .slice b l2.length capb]) := Lib.hid (by
    have := RowL.new (u.val.alloc (.cells #[.int .i64 n1, .slice a l1.length cap] 24)) 24 [.int .i64 n2, .slice b l2.length capb]
    rwa [hs1] at this)
  have HVY : Hid (∀ v : Later ((u.val.alloc (.cells #[.int .i64 n1, .slice a l1.length cap] 24)).alloc (.cells #[.int .i64 n2, .slice b l2.length capb] 24)).heap.size ((u.val.alloc (.cells #[.int .i64 n1, .slice a l1.length cap] 24)).alloc (.cells #[.int .i64 n2, .slice b l2.length capb] 24)), ∃ w : Later B W, w.val = v.val) := Lib.hid (fun v => ⟨((u.alloc _).alloc _).up v, rfl⟩)
  have KB : Hid (Calls Try.prog 23 #[.agg #[.int .i64 n1, .slice a l1.length cap], .agg #[.int .i64 n2, .slice b l2.length capb]] ((u.val.alloc (.cells #[.int .i64 n1, .slice a l1.length cap] 24)).alloc (.cells #[.int .i64 n2, .slice b l2.length capb] 24)) (Ret ((u.val.alloc (.cells #[.int .i64 n1, .slice a l1.length cap] 24)).alloc (.cells #[.int .i64 n2, .slice b l2.length capb] 24)).heap.size ((u.val.alloc (.cells #[.int .i64 n1, .slice a l1.length cap] 24)).alloc (.cells #[.int .i64 n2, .slice b l2.length capb] 24)) (.int .i64 er))) := Lib.hid (c_mtBoth (Later.self _) n1 n2 l1 l2 a b cap capb e1 e2 er (h1.to ((u.alloc _).alloc _)) (h2.to ((u.alloc _).alloc _)) hlen1 hlen2 he1 he2 hc)
  clear h1 h2 he1 he2 hs1 hc
  go_enter Try.func15, Try.ntmps15
  go_upto_region 1 with fail
  generalize ((u.val.alloc (.cells #[.int .i64 n1, .slice a l1.length cap] 24)).alloc (.cells #[.int .i64 n2, .slice b l2.length capb] 24)) = A at *
  generalize u.val.heap.size = g at *
  have p0 : A.cell? ⟨g, 0, none⟩ = some (.int .i64 n1) := HA.out.cell rfl
  have p1 : A.cell? ⟨g, 1, none⟩ = some (.slice a l1.length cap) := HA.out.cell rfl
  have p2 : A.cell? ⟨g + 1, 0, none⟩ = some (.int .i64 n2) := HB2.out.cell rfl
  have p3 : A.cell? ⟨g + 1, 1, none⟩ = some (.slice b l2.length capb) := HB2.out.cell rfl
  have d0 : (er != 0) = true := by rw [bne_iff_ne]; exact h0
  clear u HA HB2 h0
  go_wp2_with (first | (go_at_call 23; (with_reducible refine (KB.out).mono ?_); rintro e _ ⟨rfl, y, rfl⟩))
  go_ret2
  exact Ret.of (HVY.out y) rfl

set_option maxRecDepth 100000 in
set_option maxHeartbeats 8000000 in
theorem c_mtHeaviest_no {B : Nat} {W : World} (u : Later B W) (n1 n2 : Int) (l1 l2 : List Int) (a b : Option Addr) (cap capb : Nat) (e1 e2 er : Int) (wv : Value) (h1 : IntsAt B W a l1) (h2 : IntsAt B W b l2) (hlen1 : l1.length ≤ 4611686018427387904) (hlen2 : l2.length ≤ 4611686018427387904) (he1 : MatIs n1 l1 e1) (he2 : MatIs n2 l2 e2) (hc : bothE n1 n2 e1 e2 er) (h0 : er ≠ 0) :
    Calls Try.prog 14 #[.agg #[.int .i64 n1, .slice a l1.length cap], .agg #[.int .i64 n2, .slice b l2.length capb], wv] u.val (Ret B W (.tuple #[.slice none 0 0, .int .i64 er])) := by
  have hs1 : (u.val.alloc (.cells #[.int .i64 n1, .slice a l1.length cap] 24)).heap.size = u.val.heap.size + 1 := by simp
  have HA : Hid (RowL ((u.val.alloc (.cells #[.int .i64 n1, .slice a l1.length cap] 24)).alloc (.cells #[.int .i64 n2, .slice b l2.length capb] 24)) u.val.heap.size 24 [.int .i64 n1, .slice a l1.length cap]) := Lib.hid ((RowL.new _ _ _).keep ((Below.refl _ _).alloc (Nat.le_refl _) _))
  have HB2 : Hid (RowL ((u.val.alloc (.cells #[.int .i64 n1, .slice a l1.length cap] 24)).alloc (.cells #[.int .i64 n2, .slice b l2.length capb] 24)) (u.val.heap.size + 1) 24 [.int .i64 n2, .slice b l2.length capb]) := Lib.hid (by
    have := RowL.new (u.val.alloc (.cells #[.int .i64 n1, .slice a l1.length cap] 24)) 24 [.int .i64 n2, .slice b l2.length capb]
    rwa [hs1] at this)
  have HVY : Hid (∀ v : Later ((u.val.alloc (.cells #[.int .i64 n1, .slice a l1.length cap] 24)).alloc (.cells #[.int .i64 n2, .slice b l2.length capb] 24)).heap.size ((u.val.alloc (.cells #[.int .i64 n1, .slice a l1.length cap] 24)).alloc (.cells #[.int .i64 n2, .slice b l2.length capb] 24)), ∃ w : Later B W, w.val = v.val) := Lib.hid (fun v => ⟨((u.alloc _).alloc _).up v, rfl⟩)
  have KB : Hid (Calls Try.prog 23 #[.agg #[.int .i64 n1, .slice a l1.length cap], .agg #[.int .i64 n2, .slice b l2.length capb]] ((u.val.alloc (.cells #[.int .i64 n1, .slice a l1.length cap] 24)).alloc (.cells #[.int .i64 n2, .slice b l2.length capb] 24)) (Ret ((u.val.alloc (.cells #[.int .i64 n1, .slice a l1.length cap] 24)).alloc (.cells #[.int .i64 n2, .slice b l2.length capb] 24)).heap.size ((u.val.alloc (.cells #[.int .i64 n1, .slice a l1.length cap] 24)).alloc (.cells #[.int .i64 n2, .slice b l2.length capb] 24)) (.int .i64 er))) := Lib.hid (c_mtBoth (Later.self _) n1 n2 l1 l2 a b cap capb e1 e2 er (h1.to ((u.alloc _).alloc _)) (h2.to ((u.alloc _).alloc _)) hlen1 hlen2 he1 he2 hc)
  clear h1 h2 he1 he2 hs1 hc
  go_enter Try.func14, Try.ntmps14
  go_upto_region 1 with fail
  generalize ((u.val.alloc (.cells #[.int .i64 n1, .slice a l1.length cap] 24)).alloc (.cells #[.int .i64 n2, .slice b l2.length capb] 24)) = A at *
  generalize u.val.heap.size = g at *
  have p0 : A.cell? ⟨g, 0, none⟩ = some (.int .i64 n1) := HA.out.cell rfl
  have p1 : A.cell? ⟨g, 1, none⟩ = some (.slice a l1.length cap) := HA.out.cell rfl
  have p2 : A.cell? ⟨g + 1, 0, none⟩ = some (.int .i64 n2) := HB2.out.cell rfl
  have p3 : A.cell? ⟨g + 1, 1, none⟩ = some (.slice b l2.length capb) := HB2.out.cell rfl
  have d0 : (er != 0) = true := by rw [bne_iff_ne]; exact h0
  clear u HA HB2 h0
  go_wp2_with (first | (go_at_call 23; (with_reducible refine (KB.out).mono ?_); rintro e _ ⟨rfl, y, rfl⟩))
  go_ret2
  exact Ret.of (HVY.out y) rfl
end Go.Proofs.Ytenbeiafdiifgaa
