
/-
  Matrices that are read: rows of numbers in a list of lists.
-/
import Derived.Test.YtffnpokceomncaaTabs
namespace Go.Proofs.Ytffnpokceomncaa
open Go.RowKit
set_option linter.unusedVariables false

abbrev Lls := List (List Int)
/-- lists of numbers that lie at blocks below B -/
def RowsI (B : Nat) (w : World) (ad : Option Addr) (rows : Lls) : Prop := rows ≠ [] → ∃ b off, ad = some ⟨b, off, none⟩ ∧ b < B ∧ ∀ i, i < rows.length → ∃ ad' cp', w.cell? ⟨b, off + i, none⟩ = some (.slice ad' (rows.getD i []).length cp') ∧ IntsAt B w ad' (rows.getD i []) ∧ (ad' = none → cp' = 0)
theorem RowsI.nil (B : Nat) (w : World) (ad : Option Addr) : RowsI B w ad [] := fun h => absurd rfl h
theorem RowsI.mono {B B' : Nat} {w : World} {ad : Option Addr} {rows : Lls} (h : RowsI B w ad rows) (hb : B ≤ B') : RowsI B' w ad rows := fun hne => by
  obtain ⟨b, off, e, hl, hr⟩ := h hne
  refine ⟨b, off, e, by omega, fun i hi => ?_⟩
  obtain ⟨ad', cp', hc, hI, hn⟩ := hr i hi
  exact ⟨ad', cp', hc, hI.mono hb, hn⟩
theorem RowsI.later {B : Nat} {w w' : World} {ad : Option Addr} {rows : Lls} (h : RowsI B w ad rows) (hb : Below B w w') : RowsI B w' ad rows := fun hne => by
  obtain ⟨b, off, e, hl, hr⟩ := h hne
  refine ⟨b, off, e, hl, fun i hi => ?_⟩
  obtain ⟨ad', cp', hc, hI, hn⟩ := hr i hi
  refine ⟨ad', cp', ?_, hI.later hb, hn⟩
  rw [World.cell?_of_block (w := w) (hb.block b hl)]; exact hc
theorem RowsI.to {B : Nat} {w : World} {ad : Option Addr} {rows : Lls} (h : RowsI B w ad rows) (u : Later B w) : RowsI u.val.heap.size u.val ad rows := (h.later u.below).mono u.size
theorem RowsI.at {B : Nat} {W : World} {ad : Option Addr} {rows : Lls} (h : RowsI B W ad rows) {k : Nat} (hk : k < rows.length) : ∃ b off, ad = some ⟨b, off, none⟩ ∧ b < B ∧ ∀ i, i < rows.length → ∃ ad' cp', IntsAt B W ad' (rows.getD i []) ∧ ∀ u : Later B W, u.val.cell? ⟨b, off + i, none⟩ = some (.slice ad' (rows.getD i []).length cp') := by
  obtain ⟨b, off, e, hl, hr⟩ := h (by rintro rfl; simp at hk)
  refine ⟨b, off, e, hl, fun i hi => ?_⟩
  obtain ⟨ad', cp', hc, hI, _⟩ := hr i hi
  exact ⟨ad', cp', hI, fun u => by rw [World.cell?_of_block (w := W) (u.below.block b hl)]; exact hc⟩
theorem RowsI.atN {B : Nat} {W : World} {ad : Option Addr} {rows : Lls} (h : RowsI B W ad rows) {k : Nat} (hk : k < rows.length) : ∃ b off, ad = some ⟨b, off, none⟩ ∧ b < B ∧ ∃ ad' cp', IntsAt B W ad' (rows.getD k []) ∧ (ad' = none → cp' = 0) ∧ ∀ u : Later B W, u.val.cell? ⟨b, off + k, none⟩ = some (.slice ad' (rows.getD k []).length cp') := by
  obtain ⟨b, off, e, hl, hr⟩ := h (by rintro rfl; simp at hk)
  obtain ⟨ad', cp', hc, hI, hn⟩ := hr k hk
  exact ⟨b, off, e, hl, ad', cp', hI, hn, fun u => by rw [World.cell?_of_block (w := W) (u.below.block b hl)]; exact hc⟩
/-- the number at a place -/
def ent (rows : Lls) (i j : Nat) : Int := (rows.getD i []).getD j 0

/-- a matrix modulo a prime -/
def isMatrix (p c : Int) (rows : Lls) : Prop := (p = 2 ∨ p = 3 ∨ p = 5 ∨ p = 7) ∧ (0 ≤ c ∧ c ≤ 8) ∧ rows.length ≤ 6 ∧ ∀ i, i < rows.length → ((rows.getD i []).length : Int) = c ∧ ∀ k, k < (rows.getD i []).length → 0 ≤ ent rows i k ∧ ent rows i k < p
def rowOk (p c : Int) (row : List Int) : Prop := (row.length : Int) = c ∧ ∀ k, k < row.length → 0 ≤ row.getD k 0 ∧ row.getD k 0 < p
instance (p c : Int) (row : List Int) : Decidable (rowOk p c row) := by unfold rowOk; infer_instance
instance (p c : Int) (rows : Lls) : Decidable (isMatrix p c rows) := by
  unfold isMatrix
  have : (∀ i, i < rows.length → ((rows.getD i []).length : Int) = c ∧ ∀ k, k < (rows.getD i []).length → 0 ≤ ent rows i k ∧ ent rows i k < p) ↔ ∀ i, i < rows.length → rowOk p c (rows.getD i []) := Iff.rfl
  infer_instance

end Go.Proofs.Ytffnpokceomncaa
