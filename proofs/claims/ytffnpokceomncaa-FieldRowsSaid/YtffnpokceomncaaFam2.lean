
/-
  Contracts: BinarySearch over a rising list, has, basis (is a number in a rising list?); of the law's own small helpers, where they answer true: Same, list, one; bad.
-/
import Derived.Test.YtffnpokceomncaaFam
namespace Go.Proofs.Ytffnpokceomncaa
open Go.RowKit
set_option linter.unusedVariables false

def rising (l : List Int) : Prop := ∀ i j, i < j → j < l.length → l.getD i 0 < l.getD j 0
theorem famTo.rising {n l} (h : famTo n l l.length) : rising l := by
  intro i j hij hj
  induction j with
  | zero => omega
  | succ j ih =>
    have h1 := (h (j+1) hj).2.2 (by omega)
    simp only [Nat.add_sub_cancel] at h1
    by_cases e : i = j
    · subst e; exact h1
    · have := ih (by omega) (by omega); omega

theorem bs_found {l : List Int} {v : Int} {i : Nat} (hi : i < l.length) (he : l.getD i 0 = v) : v ∈ l := by rw [← he]; simp [hi]
theorem bs_not {l : List Int} {v : Int} {i : Nat} (h1 : ∀ a, a < i → l.getD a 0 < v) (h2 : ∀ a, i ≤ a → a < l.length → v ≤ l.getD a 0) (hs : rising l) (hne : i < l.length → l.getD i 0 ≠ v) : v ∉ l := by
  intro hm
  obtain ⟨a, ha, e⟩ := List.getElem_of_mem hm
  have e' : l.getD a 0 = v := by simp [ha, e]
  by_cases c : a < i
  · have := h1 a c; omega
  · by_cases c2 : a = i
    · subst c2; exact hne ha e'
    · have := hs i a (by omega) ha
      have := h2 i (by omega) (by omega)
      omega

/-- what BinarySearch says: some place, and whether it is there -/
def bsPost (l : List Int) (v : Int) (x : Value) (_ : World) : Prop := ∃ i : Int, x = .tuple #[.int .i64 i, .bool (decide (v ∈ l))]
theorem bsPost.mk {l : List Int} {v i : Int} {b : Bool} {w : World} (h : b = decide (v ∈ l)) : bsPost l v (.tuple #[.int .i64 i, .bool b]) w := ⟨i, by rw [h]⟩


/-! ### the law's own helpers, where they answer true -/
set_option maxHeartbeats 1000000 in
theorem c_same {B : Nat} {W : World} (u : Later B W) (l : List Int) (a b : Option Addr) (ca cb : Nat) (ha : IntsAt B W a l) (hb : IntsAt B W b l) (hlen : l.length ≤ 4611686018427387904) :
    Calls Try.prog 14 #[.slice a l.length ca, .slice b l.length cb] u.val (Ret B W (.bool true)) := by
  have HA := Lib.hid ha; have HB := Lib.hid hb; clear ha hb
  go_enter Try.func14, Try.ntmps14
  go_wp2
  go_loopw [13] (fun i wr => ∃ (k : Nat) (u : Later B W), k ≤ l.length ∧ i = .int .i64 k ∧ wr = u.val) (fun i _ => l.length - (intOf i).toNat)
  case atStart => exact ⟨0, u, by omega, rfl, rfl⟩
  case round =>
    obtain ⟨k, u, hk, rfl, rfl⟩ := hrel
    by_cases hlt : k < l.length
    · obtain ⟨p, off, rfl, hp, hc⟩ := HA.out.at hlt
      obtain ⟨q, off', rfl, hq, hc'⟩ := HB.out.at hlt
      have c0 : ∀ u : Later B W, u.val.cell? ⟨p, off + k, none⟩ = some (.int .i64 (l.getD k 0)) := fun u => hc u k hlt
      have c1 : ∀ u : Later B W, u.val.cell? ⟨q, off' + k, none⟩ = some (.int .i64 (l.getD k 0)) := fun u => hc' u k hlt
      generalize l.getD k 0 = x at *
      clear hc hc'
      go_wp2
      refine wp_region_later u (by kernel_rfl) (by kernel_rfl) (fun _ => ?_)
      repeat (first | go_big_quiet_step ((fail)) | (refine wpQuiet_step (fun K hK => ?_); go_simp; refine ⟨_, fun _ => rfl, ?_⟩; refine hK _ ?_; clear hK K))
      refine wpQuiet_nil ?_
      intro u
      go_wp2
      go_roundw
      case rel => exact ⟨k+1, u, by omega, by go_num, rfl⟩
      case measure => simp [intOf]; omega
    · go_wp2
      go_ret
      exact Ret.mk u rfl

set_option maxHeartbeats 400000 in
theorem c_bad {B : Nat} {W : World} (u : Later B W) (ok : Bool) (e : Int) : Calls Try.prog 9 #[.bool ok, .int .i64 e] u.val (Ret B W (.int .i64 (errno ok e))) := by
  cases ok
  all_goals
    go_enter Try.func9, Try.ntmps9
    go_wp2
    go_ret
    exact Ret.mk u rfl

set_option maxHeartbeats 400000 in
theorem c_one {B : Nat} {W : World} (u : Later B W) (x e y f : Int) (he : e = f) (h : if f = 0 then x = y else x = 0) : Calls Try.prog 12 #[.int .i64 x, .int .i64 e, .int .i64 y, .int .i64 f] u.val (Ret B W (.bool true)) := by
  subst he
  rcases ieq e 0 with ⟨g1, d1, d2⟩ | ⟨g1, d1, d2⟩
  · rw [if_pos g1] at h
    subst h g1
    go_enter Try.func12, Try.ntmps12
    go_wp2
    go_ret
    exact Ret.mk u (vbool (by simp))
  · rw [if_neg g1] at h
    subst h
    go_enter Try.func12, Try.ntmps12
    go_wp2
    go_ret
    exact Ret.mk u (vbool (by simp))

end Go.Proofs.Ytffnpokceomncaa
