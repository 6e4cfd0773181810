
/-
  kinds.greatest: the greatest sets of those of which a function value says yes.
  slices.Equal of two lists; axioms.made.
  rotaref.OfRank: the bases of what a function value says the ranks are; rotaref.Spread.
-/
import Derived.Test.YtmcffbmhkbijlaaPk14
import Derived.Test.YtmcffbmhkbijlaaPk13
import Derived.Deep.CutRange
import Derived.Test.YtmcffbmhkbijlaaPk11
import Derived.Test.YtmcffbmhkbijlaaPk12
import Derived.Test.YtmcffbmhkbijlaaPk02
import Derived.Test.YtmcffbmhkbijlaaPk10
import Derived.Deep.RegionHeld3
namespace Go.Proofs.Ytmcffbmhkbijlaa
open Go.RowKit
set_option linter.unusedVariables false

/-- the greatest size so far, and the sets of it -/
def gst (p : Nat → Bool) : Nat → Int × List Nat
  | 0 => (-1, [])
  | s + 1 => if p s = true ∧ ¬ (sz s : Int) < (gst p s).1 then (if (gst p s).1 < (sz s : Int) then ((sz s : Int), [s]) else ((gst p s).1, (gst p s).2 ++ [s])) else gst p s
theorem gst_is (p : Nat → Bool) : ∀ s, (∀ t, t ∈ thoseTo p s → (sz t : Int) ≤ (gst p s).1) ∧ ((gst p s).1 = -1 ∧ thoseTo p s = [] ∨ ∃ t, t ∈ thoseTo p s ∧ (sz t : Int) = (gst p s).1) ∧ (gst p s).2 = (thoseTo p s).filter (fun t => decide ((sz t : Int) = (gst p s).1))
  | 0 => by
    refine ⟨fun t ht => by simp [thoseTo] at ht, .inl ⟨rfl, rfl⟩, rfl⟩
  | s + 1 => by
    obtain ⟨h1, h2, h3⟩ := gst_is p s
    rw [thoseTo_step, gst]
    by_cases hp : p s = true
    · rw [if_pos hp]
      by_cases hlt : (sz s : Int) < (gst p s).1
      · rw [if_neg (fun c => c.2 hlt)]
        refine ⟨fun t ht => ?_, .inr ?_, ?_⟩
        · rw [List.mem_append, List.mem_singleton] at ht
          rcases ht with ht | rfl
          · exact h1 t ht
          · omega
        · rcases h2 with ⟨h2, _⟩ | ⟨t, h2, h4⟩
          · omega
          · exact ⟨t, List.mem_append_left _ h2, h4⟩
        · rw [List.filter_append, ← h3]
          have : decide ((sz s : Int) = (gst p s).1) = false := by simp; omega
          simp [this]
      · rw [if_pos ⟨hp, hlt⟩]
        by_cases hgt : (gst p s).1 < (sz s : Int)
        · rw [if_pos hgt]
          refine ⟨fun t ht => ?_, .inr ⟨s, by simp, rfl⟩, ?_⟩
          · rw [List.mem_append, List.mem_singleton] at ht
            rcases ht with ht | rfl
            · have := h1 t ht; show (sz t : Int) ≤ sz s; omega
            · exact Int.le_refl _
          · rw [List.filter_append]
            have e : (thoseTo p s).filter (fun t => decide ((sz t : Int) = (sz s : Int))) = [] := by
              rw [List.filter_eq_nil_iff]
              intro t ht
              have := h1 t ht
              simp; omega
            show [s] = List.filter (fun t => decide ((sz t : Int) = (sz s : Int))) (thoseTo p s) ++ List.filter (fun t => decide ((sz t : Int) = (sz s : Int))) [s]
            rw [e]; simp
        · rw [if_neg hgt]
          have he : (sz s : Int) = (gst p s).1 := by omega
          refine ⟨fun t ht => ?_, .inr ⟨s, by simp, he⟩, ?_⟩
          · rw [List.mem_append, List.mem_singleton] at ht
            rcases ht with ht | rfl
            · exact h1 t ht
            · show (sz t : Int) ≤ (gst p t).1; omega
          · show (gst p s).2 ++ [s] = _
            rw [List.filter_append, ← h3]
            have : decide ((sz s : Int) = (gst p s).1) = true := by simpa using he
            simp [this]
    · rw [if_neg hp, if_neg (fun c => hp c.1)]
      exact ⟨h1, h2, h3⟩
theorem mostTo_le_of {l : List Nat} {M : Nat} (h : ∀ t, t ∈ l → sz t ≤ M) : ∀ k, k ≤ l.length → mostTo l k ≤ M
  | 0, _ => Nat.zero_le _
  | k + 1, hk => by
    have ih := mostTo_le_of h k (by omega)
    have h2 := h (l.getD k 0) (by simp [show k < l.length by omega])
    show max _ _ ≤ M
    omega
theorem gst_big (p : Nat → Bool) (m : Nat) : (gst p (bit m)).2 = biggest (those m p) := by
  obtain ⟨h1, h2, h3⟩ := gst_is p (bit m)
  rw [h3, biggest_eq]
  show _ = List.filter _ (thoseTo p (bit m))
  rcases h2 with ⟨_, h2⟩ | ⟨t, h2, h4⟩
  · rw [h2]; rfl
  · have hM : mostTo (those m p) (those m p).length = sz t := by
      apply Nat.le_antisymm
      · exact mostTo_le_of (fun q hq => by have := h1 q hq; omega) _ (Nat.le_refl _)
      · obtain ⟨i, hi, e⟩ := List.getElem_of_mem (show t ∈ those m p from h2)
        have := mostTo_ge (those m p) hi
        simp [hi, e] at this
        simpa using this
    rw [hM]
    refine List.filter_congr (fun q hq => ?_)
    rw [← h4, Bool.eq_iff_iff, decide_eq_true_eq, beq_iff_eq]
    omega
theorem gst_len (p : Nat → Bool) : ∀ s, (gst p s).2.length ≤ s
  | 0 => Nat.le_refl _
  | s + 1 => by
    have ih := gst_len p s
    rw [gst]
    split
    · split <;> simp <;> omega
    · omega
theorem gst_lo (p : Nat → Bool) : ∀ s, -1 ≤ (gst p s).1 ∧ (gst p s).1 ≤ 8
  | 0 => by show (-1 : Int) ≤ -1 ∧ (-1 : Int) ≤ 8; omega
  | s + 1 => by
    have ih := gst_lo p s
    have := sz_le s
    rw [gst]
    split
    · split
      · show (-1 : Int) ≤ (sz s : Int) ∧ (sz s : Int) ≤ 8; omega
      · exact ih
    · exact ih

theorem RowL.apart {w : World} {g : Nat} {t : TypeId} {vs : List Value} (h : RowL w g t vs) {g' : Nat} (hne : g' ≠ g) (i : Nat) (x : Value) : RowL (w.setCell ⟨g', i, none⟩ x) g t vs := by
  have h' : w.heap[g]? = _ := h
  simp only [RowL, World.setCell, Array.getElem?_modify, h']
  simp [hne]

end Go.Proofs.Ytmcffbmhkbijlaa

namespace Go.Proofs.Ytmcffbmhkbijlaa
open Go.RowKit
set_option linter.unusedVariables false

theorem tabL_self (X : List Int) : tabL X.length (fun t => X.getD t 0) = X := by
  unfold tabL
  apply List.ext_getElem
  · simp
  · intro i h1 h2
    simp [h2]
theorem list_ext_getD {X Y : List Int} (hl : X.length = Y.length) : (∀ t, t < X.length → X.getD t 0 = Y.getD t 0) ↔ X = Y := by
  constructor
  · intro h
    rw [← tabL_self X, ← tabL_self Y, ← hl]
    unfold tabL
    exact List.map_congr_left (fun t ht => h t (List.mem_range.1 ht))
  · intro h; subst h; exact fun _ _ => rfl
set_option maxRecDepth 100000 in
set_option maxHeartbeats 4000000 in
theorem c_equalL {B : Nat} {W : World} (u : Later B W) (X Y : List Int) (a b : Option Addr) (cap capb : Nat) (h1 : IntsAt B W a X) (h2 : IntsAt B W b Y) (hn : X.length ≤ 1048576) :
    Calls Try.prog 34 #[.slice a X.length cap, .slice b Y.length capb] u.val (Ret B W (.bool (decide (X = Y)))) := by
  by_cases hl : X.length = Y.length
  · have h3 := c_equalI u X.length (fun t => X.getD t 0) (fun t => Y.getD t 0) a b cap capb (by rw [tabL_self]; exact h1) (by rw [hl, tabL_self]; exact h2) hn (decide (X = Y)) (by rw [decide_eq_true_eq]; exact (list_ext_getD hl).symm)
    rw [← hl]
    exact h3
  · have hd : decide (X = Y) = false := decide_eq_false (fun e => hl (by rw [e]))
    rw [hd]
    have d0 : ((X.length : Int) != (Y.length : Int)) = true := by rw [bne_iff_ne]; omega
    clear h1 h2 hl hd
    generalize X.length = p at *
    generalize Y.length = q at *
    go_enter Try.func34, Try.ntmps34
    go_wp2
    go_ret
    exact Ret.mk u rfl

def mdN (ok : Bool) (m : Nat) : Int := if ok then (m : Int) else 0
def mdX (ok : Bool) (A : List Nat) : List Int := if ok then ints A else []
def mdE (ok : Bool) : Int := if ok then 0 else 3
end Go.Proofs.Ytmcffbmhkbijlaa

namespace Go.Proofs.Ytmcffbmhkbijlaa
open Go.RowKit
set_option linter.unusedVariables false

/-- a function value that tells of each set below 2^m a number, in whatever later world -/
def TellsN (B : Nat) (W : World) (k : FuncId) (caps : Array Value) (m : Nat) (r : Nat → Int) : Prop :=
  ∀ (x : Later B W) (v : Later x.val.heap.size x.val) (s : Nat), s < bit m → Calls Try.prog k (#[.int .i64 (s : Int)] ++ caps) v.val (Ret x.val.heap.size x.val (.int .i64 (r s)))

end Go.Proofs.Ytmcffbmhkbijlaa
