
/-
  Rows that are nought with reduced rows, plainly: they are, and no one hangs on others. No program in sight.
-/
import Derived.Test.YtffnpokceomncaaGePl
namespace Go.Proofs.Ytffnpokceomncaa
set_option linter.unusedVariables false

/-- what two rows make -/
def dot (C : Nat) (v w : Nat → Int) : Int := isum (fun j => v j * w j) C
theorem dot_cg {p C : Nat} {v w v' w' : Nat → Int} (h1 : ∀ j, j < C → Cg p (v j) (v' j)) (h2 : ∀ j, j < C → Cg p (w j) (w' j)) : Cg p (dot C v w) (dot C v' w') := isum_cg (fun j hj => (h1 j hj).mul (h2 j hj))
theorem dot_sum {C m : Nat} {a : Nat → Int} {R : Nat → Nat → Int} {w : Nat → Int} : dot C (fun j => isum (fun i => a i * R i j) m) w = isum (fun i => a i * dot C (R i) w) m := by
  unfold dot
  have e1 : isum (fun j => isum (fun i => a i * R i j) m * w j) C = isum (fun j => isum (fun i => a i * (R i j * w j)) m) C := isum_congr (fun j _ => by
    rw [Int.mul_comm, ← isum_mul]
    exact isum_congr (fun i _ => by grind))
  rw [e1, isum_swap]
  exact isum_congr (fun i _ => isum_mul _ _ _)
theorem dot_comm (C : Nat) (v w : Nat → Int) : dot C v w = dot C w v := isum_congr (fun j _ => Int.mul_comm _ _)
/-- nought with rows is nought with what they span -/
theorem nought_span {p C m : Nat} {R : Nat → Nat → Int} {v w : Nat → Int} (hv : InSp p C m R v) (h : ∀ i, i < m → Cg p (dot C (R i) w) 0) : Cg p (dot C v w) 0 := by
  obtain ⟨a, ha⟩ := hv
  refine (dot_cg ha (fun j _ => Cg.refl _)).trans ?_
  rw [dot_sum]
  have : Cg p (isum (fun i => a i * dot C (R i) w) m) (isum (fun _ => 0) m) := isum_cg (fun i hi => by
    have := (Cg.refl (a i)).mul (h i hi)
    rwa [Int.mul_zero] at this)
  rwa [isum_zero (fun _ _ => rfl)] at this

/-- the row of a free place -/
def krn (p : Nat) (M : Nat → Nat → Int) (A : List Nat) (c j : Nat) : Int := if j = c then 1 else isum (fun i => if A.getD i 0 = j then ((p : Int) - M i c) % (p : Int) else 0) A.length
section
variable {p C N : Nat} {M0 M : Nat → Nat → Int} {A : List Nat} {cc : Nat}
theorem krn_at (h : RdS p C N M0 M cc A) {c i : Nat} (hi : i < A.length) (hc : ∀ k, k < A.length → A.getD k 0 ≠ c) : krn p M A c (A.getD i 0) = ((p : Int) - M i c) % (p : Int) := by
  unfold krn
  rw [if_neg (hc i hi)]
  have : isum (fun k => if A.getD k 0 = A.getD i 0 then ((p : Int) - M k c) % (p : Int) else 0) A.length = isum (fun k => if k = i then ((p : Int) - M k c) % (p : Int) else 0) A.length := isum_congr (fun k hk => by
    by_cases e : k = i
    · subst e; rw [if_pos rfl, if_pos rfl]
    · rw [if_neg e, if_neg (fun e2 => by
        rcases Nat.lt_or_gt_of_ne e with d | d
        · have := h.rise k i d hi; omega
        · have := h.rise i k d hk; omega)])
  rw [this, isum_pick (g := fun k => ((p : Int) - M k c) % (p : Int)) hi]
theorem krn_free {c j : Nat} (hj : ∀ k, k < A.length → A.getD k 0 ≠ j) : krn p M A c j = if j = c then 1 else 0 := by
  unfold krn
  by_cases e : j = c
  · rw [if_pos e, if_pos e]
  · rw [if_neg e, if_neg e]
    exact isum_zero (fun k hk => if_neg (hj k hk))
theorem krn_small (hp : 2 ≤ p) (h : RdS p C N M0 M cc A) {c : Nat} (hc : ∀ k, k < A.length → A.getD k 0 ≠ c) (j : Nat) : 0 ≤ krn p M A c j ∧ krn p M A c j < p := by
  by_cases e : ∃ i, i < A.length ∧ A.getD i 0 = j
  · obtain ⟨i, hi, rfl⟩ := e
    rw [krn_at h hi hc]
    exact mod_small p (by omega) _
  · rw [krn_free (fun k hk e2 => e ⟨k, hk, e2⟩)]
    split <;> omega
/-- nought with each reduced row -/
theorem krn_row (h : RdS p C N M0 M cc A) (hcc : cc ≤ C) {c : Nat} (hcC : c < C) (hc : ∀ k, k < A.length → A.getD k 0 ≠ c) {i : Nat} (hi : i < A.length) : Cg p (dot C (M i) (krn p M A c)) 0 := by
  have hAC : ∀ k, k < A.length → A.getD k 0 < C := fun k hk => by have := h.at_lt k hk; omega
  have hiN : i < N := by have := h.le; omega
  have e1 : dot C (M i) (krn p M A c) = isum (fun j => (if j = c then M i j else 0) + (if j = A.getD i 0 then M i j * krn p M A c j else 0)) C := isum_congr (fun j hj => by
    by_cases d : j = c
    · subst d
      rw [if_pos rfl, if_neg (fun e => hc i hi e.symm)]
      unfold krn
      rw [if_pos rfl]; omega
    · rw [if_neg d]
      by_cases f : j = A.getD i 0
      · rw [if_pos f]; omega
      · rw [if_neg f]
        by_cases g : ∃ k, k < A.length ∧ A.getD k 0 = j
        · obtain ⟨k, hk, rfl⟩ := g
          have : k ≠ i := fun e => f (by rw [e])
          rw [h.zc k i hk hiN (fun e => this e.symm)]; simp
        · rw [krn_free (fun k hk e2 => g ⟨k, hk, e2⟩), if_neg d]; simp)
  rw [e1, isum_add, isum_pick (g := fun j => M i j) hcC, isum_pick (g := fun j => M i j * krn p M A c j) (hAC i hi), h.one i hi, krn_at h hi hc, Int.one_mul]
  have h2 : Cg p (M i c + ((p : Int) - M i c) % (p : Int)) (M i c + ((p : Int) - M i c)) := (Cg.refl _).add (Cg.mod _)
  rw [show M i c + ((p : Int) - M i c) = p by omega] at h2
  exact h2.trans Cg.p_zero
/-- nought with each row that there was -/
theorem krn_nought (h : RdS p C N M0 M cc A) (hcc : cc ≤ C) (hend : cc = C ∨ A.length = N) {c : Nat} (hcC : c < C) (hc : ∀ k, k < A.length → A.getD k 0 ≠ c) {i : Nat} (hi : i < N) : Cg p (dot C (M0 i) (krn p M A c)) 0 :=
  nought_span (h.eq.bwd i hi) (fun k hk => by
    by_cases d : k < A.length
    · exact krn_row h hcc hcC hc d
    · rcases hend with e | e
      · have h0 : dot C (M k) (krn p M A c) = 0 := isum_zero (fun j hj => by rw [h.below k j (by omega) hk (by omega)]; simp)
        rw [h0]; exact Cg.refl _
      · omega)
/-- no one of them hangs on others -/
theorem krn_indep {F : List Nat} (hF : ∀ i, i < F.length → F.getD i 0 < C ∧ ∀ k, k < A.length → A.getD k 0 ≠ F.getD i 0) (hinj : ∀ i k, i < F.length → k < F.length → F.getD i 0 = F.getD k 0 → i = k) : Indep p C F.length (fun i => krn p M A (F.getD i 0)) := fun a ha i hi => by
  have h1 := ha (F.getD i 0) (hF i hi).1
  have e : isum (fun k => a k * krn p M A (F.getD k 0) (F.getD i 0)) F.length = isum (fun k => if k = i then a k else 0) F.length := isum_congr (fun k hk => by
    rw [krn_free (hF i hi).2]
    by_cases d : k = i
    · subst d; rw [if_pos rfl, if_pos rfl]; omega
    · rw [if_neg d, if_neg (fun e => d (hinj i k hi hk e).symm)]; omega)
  rw [e, isum_pick (g := a) hi] at h1
  exact h1
end
/-- the free places -/
def freeT (A : List Nat) : Nat → List Nat
  | 0 => []
  | k + 1 => if k ∈ A then freeT A k else freeT A k ++ [k]
theorem freeT_lt (A : List Nat) : ∀ k x, x ∈ freeT A k → x < k ∧ x ∉ A
  | 0, x, h => by cases h
  | k + 1, x, h => by
    simp only [freeT] at h
    split at h
    · have := freeT_lt A k x h; exact ⟨by omega, this.2⟩
    · rcases List.mem_append.1 h with h | h
      · have := freeT_lt A k x h; exact ⟨by omega, this.2⟩
      · have e : x = k := by simpa using h
        subst e
        exact ⟨by omega, by assumption⟩
theorem freeT_nodup (A : List Nat) : ∀ k, (freeT A k).Nodup
  | 0 => List.nodup_nil
  | k + 1 => by
    simp only [freeT]
    split
    · exact freeT_nodup A k
    · rw [List.nodup_append]
      refine ⟨freeT_nodup A k, by simp, fun x hx y hy e => ?_⟩
      have := (freeT_lt A k x hx).1
      have e2 : y = k := by simpa using hy
      omega

theorem below_step (k : Nat) : ∀ A : List Nat, A.countP (fun x => decide (x < k + 1)) = A.countP (fun x => decide (x < k)) + A.count k
  | [] => rfl
  | x :: A => by
    have ih := below_step k A
    rw [List.countP_cons, List.countP_cons, List.count_cons, ih]
    by_cases h1 : x < k
    · rw [if_pos (by simp; omega), if_pos (by simpa using h1), if_neg (by simp; omega)]; omega
    · by_cases h2 : x = k
      · subst h2; rw [if_pos (by simp), if_neg (by simp), if_pos (by simp)]; omega
      · rw [if_neg (by simp; omega), if_neg (by simpa using h1), if_neg (by simpa using h2)]; omega
theorem freeT_len (A : List Nat) (h : A.Nodup) : ∀ k, (freeT A k).length + A.countP (fun x => decide (x < k)) = k
  | 0 => by
    have : A.countP (fun x => decide (x < 0)) = 0 := by rw [List.countP_eq_zero]; intro x _; simp
    rw [this]; rfl
  | k + 1 => by
    have ih := freeT_len A h k
    rw [below_step]
    simp only [freeT]
    split
    · rename_i hk
      have : A.count k = 1 := by
        have h1 := List.nodup_iff_count.1 h k
        have h2 := List.count_pos_iff.2 hk
        omega
      omega
    · rename_i hk
      have : A.count k = 0 := List.count_eq_zero.2 hk
      rw [List.length_append]
      simp only [List.length_cons, List.length_nil]
      omega

end Go.Proofs.Ytffnpokceomncaa
