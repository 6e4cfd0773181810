/-
  rotalaw.HallRado returns true, whatever it is handed.
-/
import Derived.Test.YtcljgnmlpfddiaaRadoM
import Derived.Test.YtcljgnmlpfddiaaStand2
import Derived.Test.YtcljgnmlpfddiaaBar
import Derived.Test.YtcljgnmlpfddiaaRMat
import Derived.Test.YtcljgnmlpfddiaaOnes
namespace Go.Proofs.Ytcljgnmlpfddiaa
open Go.RowKit
set_option linter.unusedVariables false

/-- the law's own look for a bar: from above down to j -/
def BarDown (q : Nat) (P : Nat → Prop) (j : Nat) (b : Int) : Prop := (b = -1 ∧ ∀ z, j ≤ z → z < bit q → ¬ P z) ∨ (∃ z : Nat, b = z ∧ j ≤ z ∧ z < bit q ∧ P z ∧ ∀ y, j ≤ y → y < z → ¬ P y)
theorem BarDown.yes {q : Nat} {P : Nat → Prop} {j : Nat} (hj : j < bit q) (hp : P j) : BarDown q P j (j : Int) := .inr ⟨j, rfl, Nat.le_refl _, hj, hp, fun y h1 h2 => by omega⟩
theorem BarDown.no {q : Nat} {P : Nat → Prop} {j : Nat} {b : Int} (h : BarDown q P (j+1) b) (hp : ¬ P j) : BarDown q P j b := by
  rcases h with ⟨h1, h2⟩ | ⟨z, h1, h2, h3, h4, h5⟩
  · refine .inl ⟨h1, fun z hz hz2 => ?_⟩
    by_cases c : z = j
    · subst c; exact hp
    · exact h2 z (by omega) hz2
  · refine .inr ⟨z, h1, by omega, h3, h4, fun y hy hy2 => ?_⟩
    by_cases c : y = j
    · subst c; exact hp
    · exact h5 y (by omega) hy2
theorem BarDown.end {q : Nat} {P : Nat → Prop} {b x e : Int} (h : BarDown q P 0 b) (hx : BarIs q P x e) : (b = -1 ∧ x = 0 ∧ e = 5) ∨ (∃ z : Nat, b = z ∧ z < bit q ∧ x = z ∧ e = 0) := by
  rcases h with ⟨h1, h2⟩ | ⟨z, h1, h2, h3, h4, h5⟩
  · obtain ⟨a, b⟩ := hx.miss (fun z hz => h2 z (by omega) hz)
    exact .inl ⟨h1, a, b⟩
  · obtain ⟨a, b⟩ := hx.hit h3 h4 (fun y hy => h5 y (by omega) hy)
    exact .inr ⟨z, h1, h3, a, b⟩
theorem BarIs.ex (q : Nat) (P : Nat → Prop) : ∃ x e, BarIs q P x e := by
  by_cases h : ∃ y, y < bit q ∧ P y
  · obtain ⟨y, h1, h2⟩ := h
    have hmin : ∀ n y, y ≤ n → P y → ∃ d, d ≤ y ∧ P d ∧ ∀ z, z < d → ¬ P z := by
      intro n
      induction n with
      | zero => intro y hy h; exact ⟨y, Nat.le_refl _, h, fun z hz => by omega⟩
      | succ n ih =>
        intro y hy h
        by_cases g : ∃ z, z < y ∧ P z
        · obtain ⟨z, h1, h2⟩ := g
          obtain ⟨d, h3, h4, h5⟩ := ih z (by omega) h2
          exact ⟨d, by omega, h4, h5⟩
        · exact ⟨y, Nat.le_refl _, h, fun z hz hp => g ⟨z, hz, hp⟩⟩
    obtain ⟨d, h3, h4, h5⟩ := hmin y y (Nat.le_refl _) h2
    exact ⟨d, 0, .inl ⟨d, by omega, h4, h5, rfl, rfl⟩⟩
  · exact ⟨0, 5, .inr ⟨fun z hz hp => h ⟨z, hz, hp⟩, rfl, rfl⟩⟩

set_option maxRecDepth 100000 in
set_option maxHeartbeats 20000000 in
theorem law_hr_no {B : Nat} {W : World} (u : Later B W) (n : Int) (l : List Int) (a : Option Addr) (cap : Nat) (ls : List Int) (b : Option Addr) (capb : Nat) (e e2 : Int) (h : IntsAt B W a l) (hlen : l.length ≤ 4611686018427387904) (he : MatIs n l e) (hb : IntsAt B W b ls) (hlb : ls.length ≤ 4611686018427387904) (hLs : LisIs n ls e2) (hno : (if e = 0 then e2 else e) ≠ 0) :
    Calls Try.prog 13 #[.agg #[.int .i64 n, .slice a l.length cap], .slice b ls.length capb] u.val (Ret B W (.bool true)) := by
  have T0 : Hid (Two (u.val.alloc (.cells #[.int .i64 n, .slice a l.length cap] 60)) u.val.heap.size 60 (.int .i64 n) (.slice a l.length cap)) := Lib.hid (Two.new _ _ _ _)
  have hI : IntsAt (u.val.alloc (.cells #[.int .i64 n, .slice a l.length cap] 60)).heap.size (u.val.alloc (.cells #[.int .i64 n, .slice a l.length cap] 60)) a l := h.to (u.alloc _)
  have hIb : IntsAt (u.val.alloc (.cells #[.int .i64 n, .slice a l.length cap] 60)).heap.size (u.val.alloc (.cells #[.int .i64 n, .slice a l.length cap] 60)) b ls := hb.to (u.alloc _)
  have HV : Hid (∀ v : Later (u.val.alloc (.cells #[.int .i64 n, .slice a l.length cap] 60)).heap.size (u.val.alloc (.cells #[.int .i64 n, .slice a l.length cap] 60)), ∃ w : Later B W, w.val = v.val) := Lib.hid (fun v => ⟨(u.alloc _).up v, rfl⟩)
  have q0 : ∀ w : Later (u.val.alloc (.cells #[.int .i64 n, .slice a l.length cap] 60)).heap.size (u.val.alloc (.cells #[.int .i64 n, .slice a l.length cap] 60)), w.val.cell? ⟨u.val.heap.size, 0, none⟩ = some (.int .i64 n) := fun w => (T0.out.keep w.below).c0
  have q1 : ∀ w : Later (u.val.alloc (.cells #[.int .i64 n, .slice a l.length cap] 60)).heap.size (u.val.alloc (.cells #[.int .i64 n, .slice a l.length cap] 60)), w.val.cell? ⟨u.val.heap.size, 1, none⟩ = some (.slice a l.length cap) := fun w => (T0.out.keep w.below).c1
  have p0 : (u.val.alloc (.cells #[.int .i64 n, .slice a l.length cap] 60)).cell? ⟨u.val.heap.size, 0, none⟩ = some (.int .i64 n) := T0.out.c0
  have p1 : (u.val.alloc (.cells #[.int .i64 n, .slice a l.length cap] 60)).cell? ⟨u.val.heap.size, 1, none⟩ = some (.slice a l.length cap) := T0.out.c1
  have KM : Hid (Calls Try.prog 74 #[.agg #[.int .i64 n, .slice a l.length cap]] (u.val.alloc (.cells #[.int .i64 n, .slice a l.length cap] 60)) (Ret (u.val.alloc (.cells #[.int .i64 n, .slice a l.length cap] 60)).heap.size (u.val.alloc (.cells #[.int .i64 n, .slice a l.length cap] 60)) (.int .i64 e))) := Lib.hid (c_refMatroid (Later.self _) n l a cap e hI hlen he)
  have KL := Lib.hid (fun v : Later (u.val.alloc (.cells #[.int .i64 n, .slice a l.length cap] 60)).heap.size (u.val.alloc (.cells #[.int .i64 n, .slice a l.length cap] 60)) => c_lists v n ls b capb e2 hIb hlb hLs)
  have KR := Lib.hid (fun v : Later (u.val.alloc (.cells #[.int .i64 n, .slice a l.length cap] 60)).heap.size (u.val.alloc (.cells #[.int .i64 n, .slice a l.length cap] 60)) => c_rado_no v n l a cap ls b capb e e2 hI hlen he hIb hlb hLs hno)
  have KB := Lib.hid (fun v : Later (u.val.alloc (.cells #[.int .i64 n, .slice a l.length cap] 60)).heap.size (u.val.alloc (.cells #[.int .i64 n, .slice a l.length cap] 60)) => c_radoBar_no v n l a cap ls b capb e e2 hI hlen he hIb hlb hLs hno)
  clear h hb hI hIb he hLs T0
  rcases ieq e 0 with ⟨g, d1, d2⟩ | ⟨g, d1, d2⟩
  · subst g
    rw [if_pos rfl] at hno
    simp only [if_true] at KR KB
    have d3 : (e2 != 0) = true := by rw [bne_iff_ne]; exact hno
    clear hno
    go_enter Try.func13, Try.ntmps13
    go_wp2_with (first | (go_at_call 74; ((with_reducible refine (KM.out).mono ?_); rintro e _ ⟨rfl, v1, rfl⟩)) | (go_at_call 82; ((with_reducible refine (KL.out _).mono ?_); rintro e _ ⟨rfl, v1, rfl⟩)) | (go_at_call 83; ((with_reducible refine (KR.out _).mono ?_); rintro e _ ⟨_, rfl, ⟨_, rfl, ⟨ad2, cp2, rfl, hI3, hcp3⟩⟩, v1, rfl⟩; clear hI3 hcp3)) | (go_at_call 84; ((with_reducible refine (KB.out _).mono ?_); rintro e _ ⟨rfl, v1, rfl⟩)))
    go_ret
    exact Ret.of (HV.out v1) (by simp)
  · simp only [if_neg g] at KR KB
    clear hno
    have d3 : (e != 0) = true := by rw [bne_iff_ne]; exact g
    clear g
    go_enter Try.func13, Try.ntmps13
    go_wp2_with (first | (go_at_call 74; ((with_reducible refine (KM.out).mono ?_); rintro e _ ⟨rfl, v1, rfl⟩)) | (go_at_call 83; ((with_reducible refine (KR.out _).mono ?_); rintro e _ ⟨_, rfl, ⟨_, rfl, ⟨ad2, cp2, rfl, hI3, hcp3⟩⟩, v1, rfl⟩; clear hI3 hcp3)) | (go_at_call 84; ((with_reducible refine (KB.out _).mono ?_); rintro e _ ⟨rfl, v1, rfl⟩)))
    go_ret
    exact Ret.of (HV.out v1) (by simp)

end Go.Proofs.Ytcljgnmlpfddiaa
