
/-
  sub.Induced, the walk.
  rotaref.IsGraph and kinds.CheckGraph.
-/
import Derived.Test.YtnhpefcjgaimeaaPk11
import Derived.Laws.ResultCell
namespace Go.Proofs.Ytnhpefcjgaimeaa
open Go.RowKit
set_option linter.unusedVariables false

/-- a result: a matroid (none where the error is not 0) and the error -/
def MatE (n : Int) (xs : List Int) (k : Int) (v : Value) (w : World) : Prop := ∃ b, v = .tuple #[.agg #[.int .i64 (if k = 0 then n else 0), b], .int .i64 k] ∧ Reads w.heap.size w b (if k = 0 then xs else [])
def RetMatE (B : Nat) (W : World) (n : Int) (xs : List Int) (k : Int) : Ending → World → Prop := RetP B W (MatE n xs k)
theorem MatE.no {n : Int} {xs : List Int} {k : Int} (hk : k ≠ 0) (w : World) : MatE n xs k (.tuple #[.agg #[.int .i64 0, .slice none 0 0], .int .i64 k]) w :=
  ⟨_, by rw [if_neg hk], by rw [if_neg hk]; exact Reads.nil _ _⟩

end Go.Proofs.Ytnhpefcjgaimeaa

namespace Go.Proofs.Ytnhpefcjgaimeaa
open Go.RowKit
set_option linter.unusedVariables false

def edgesTo (n : Int) (es : List (Int × Int)) (k : Nat) : Prop := ∀ i, i < k → 0 ≤ (es.getD i (0,0)).1 ∧ 0 ≤ (es.getD i (0,0)).2 ∧ (es.getD i (0,0)).1 < n ∧ (es.getD i (0,0)).2 < n
instance (n es k) : Decidable (edgesTo n es k) := by unfold edgesTo; infer_instance
def isGraph (n : Int) (es : List (Int × Int)) : Prop := 1 ≤ n ∧ n ≤ 7 ∧ es.length ≤ 8 ∧ edgesTo n es es.length
instance (n es) : Decidable (isGraph n es) := by unfold isGraph; infer_instance
theorem edgesTo_step {n : Int} {es : List (Int × Int)} {k : Nat} (h : edgesTo n es k) (h1 : 0 ≤ (es.getD k (0,0)).1) (h2 : 0 ≤ (es.getD k (0,0)).2) (h3 : (es.getD k (0,0)).1 < n) (h4 : (es.getD k (0,0)).2 < n) : edgesTo n es (k+1) := by
  intro i hi
  by_cases e : i = k
  · subst e; exact ⟨h1, h2, h3, h4⟩
  · exact h i (by omega)

set_option maxRecDepth 100000 in
set_option maxHeartbeats 2000000 in
theorem c_checkGraph {B : Nat} {W : World} (u : Later B W) (n : Int) (es : List (Int × Int)) (a : Option Addr) (cap : Nat) (h : EdgesAt B W a es) (hlen : es.length ≤ 4611686018427387904) :
    Calls Try.prog 33 #[.agg #[.int .i64 n, .slice a es.length cap]] u.val (Ret B W (.int .i64 (errno (decide (isGraph n es)) 1))) := by
  have HI : Hid (EdgesAt (u.val.alloc (.cells #[.int .i64 n, .slice a es.length cap] 24)).heap.size (u.val.alloc (.cells #[.int .i64 n, .slice a es.length cap] 24)) a es) := Lib.hid (h.to (u.alloc _))
  clear h
  have T0 : Hid (Two (u.val.alloc (.cells #[.int .i64 n, .slice a es.length cap] 24)) u.val.heap.size 24 (.int .i64 n) (.slice a es.length cap)) := Lib.hid (Two.new _ _ _ _)
  have hr : u.val.heap.size < (u.val.alloc (.cells #[.int .i64 n, .slice a es.length cap] 24)).heap.size := by simp
  have HV : Hid (∀ v : Later (u.val.alloc (.cells #[.int .i64 n, .slice a es.length cap] 24)).heap.size (u.val.alloc (.cells #[.int .i64 n, .slice a es.length cap] 24)), ∃ w : Later B W, w.val = v.val) := Lib.hid (fun v => ⟨(u.alloc _).up v, rfl⟩)
  rcases ilt n 1 with ⟨h0, e0⟩ | ⟨h0, e0⟩
  · go_enter Try.func33, Try.ntmps33
    go_wp2
    go_ret
    exact Ret.of (HV.out (Later.self _)) (vint (errno_bad (fun h => by have := h.1; omega)))
  rcases ilt 7 n with ⟨h7, e7⟩ | ⟨h7, e7⟩
  · go_enter Try.func33, Try.ntmps33
    go_wp2
    go_ret
    exact Ret.of (HV.out (Later.self _)) (vint (errno_bad (fun h => by have := h.2.1; omega)))
  rcases ilt 8 (es.length : Int) with ⟨h8, e8⟩ | ⟨h8, e8⟩
  · go_enter Try.func33, Try.ntmps33
    go_wp2
    go_ret
    exact Ret.of (HV.out (Later.self _)) (vint (errno_bad (fun h => by have := h.2.2.1; omega)))
  go_enter Try.func33, Try.ntmps33
  go_wp2
  generalize hr2 : u.val.heap.size = r at *
  generalize u.val.alloc (.cells #[.int .i64 n, .slice a es.length cap] 24) = W1 at *
  clear hr2 u
  go_loopw [22] (fun i wr => ∃ (k : Nat) (v : Later W1.heap.size W1), k ≤ es.length ∧ i = .int .i64 k ∧ wr = v.val ∧ Hid (edgesTo n es k)) (fun i _ => es.length - (intOf i).toNat)
  case atStart => exact ⟨0, Later.self _, by omega, rfl, rfl, Lib.hid (fun i hi => absurd hi (by omega))⟩
  case round =>
    obtain ⟨k, v, hk, rfl, rfl, hf⟩ := hrel
    by_cases hlt : k < es.length
    · obtain ⟨b, off, rfl, hbB, hcell⟩ := HI.out.at hlt
      have c0 := (hcell v k hlt).1
      have c1 := (hcell v k hlt).2
      have HS := Lib.hid (@edgesTo_step n es k hf.out)
      have HN : Hid (edgesTo n es es.length → _) := Lib.hid (fun h => h k hlt)
      have T1 := T0.out.keep_at v.below hr
      have q0 := T1.c0
      have T2 := Lib.hid (T1.keep_at ((Below.refl W1.heap.size v.val).alloc v.size (.cells #[.int .i64 (es.getD k (0,0)).1, .int .i64 (es.getD k (0,0)).2] 42)) hr)
      have q1 := T2.out.c0
      clear T1 hcell hf
      generalize (es.getD k (0,0)).1 = x at *
      generalize (es.getD k (0,0)).2 = y at *
      rcases ilt x 0 with ⟨g1, d1⟩ | ⟨g1, d1⟩ <;> rcases ilt y 0 with ⟨g2, d2⟩ | ⟨g2, d2⟩ <;> rcases ile n x with ⟨g3, d3⟩ | ⟨g3, d3⟩ <;> rcases ile n y with ⟨g4, d4⟩ | ⟨g4, d4⟩
      all_goals first | (exfalso; omega) | skip
      all_goals
        go_wp2
        first
        | (go_ret
           exact Ret.of (HV.out (v.alloc (.cells #[.int .i64 x, .int .i64 y] 42))) (vint (errno_bad (fun h => by have := HN.out h.2.2.2; omega))))
        | (go_roundw
           case rel => exact ⟨k+1, v.alloc (.cells #[.int .i64 x, .int .i64 y] 42), by omega, by go_num, rfl, Lib.hid (HS.out (by omega) (by omega) (by omega) (by omega))⟩
           case measure => simp [intOf]; omega)
    · have hke : Hid (k = es.length) := Lib.hid (by omega)
      go_wp2
      go_ret
      exact Ret.of (HV.out v) (vint (errno_ok ⟨by omega, by omega, by omega, by have := hf.out; rwa [hke.out] at this⟩))

end Go.Proofs.Ytnhpefcjgaimeaa
