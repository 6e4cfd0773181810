
/-
  What is handed in, opened: a list of bases with numbers.
-/
import Derived.Test.YtmhjhdgaecdloaaLift
namespace Go.Proofs.Ytmhjhdgaecdloaa
open Go.ChangeShapes Go.WideShapes Go.ChangeAt Go.RowKit Go.Deep Go.Joins
set_option linter.unusedVariables false

section
variable {H : Type} {enc : TypeId × Value → H} {W : World}

theorem cells_values {fuel : Nat} {cs : List Value} {x : DataW H × List MemPlace} (h : DataW.trod enc Try.prog W 0 (fun _ => true) true fuel 22 cs = some x) (hw : ∀ n ∈ x.1.weights Try.prog 22, n ≤ reachBytes) :
    ∃ (es : List (Int × Int)) (ad : Option Addr) (cap : Nat), cs = [.slice ad es.length cap] ∧ EdgesAt W.heap.size W ad es ∧ es.length ≤ 17592186044416 := by
  have hlt := DataW.trod_lt fuel _ _ _ h
  rcases open_slice_pairs Try.underlying22 Try.underlying36 (by kernel_rfl) rfl rfl (by kernel_rfl) (by kernel_rfl) h with ⟨rfl, rfl⟩ | ⟨a, l, c, m, n, V0, V1, D0, D1, P0, P1, rfl, hb, hl, hm, hmm, rfl, hx⟩
  · exact ⟨[], none, 0, rfl, fun h => absurd rfl h, by simp⟩
  · simp only [if_true] at hmm
    subst hmm
    have hreach := hw (m * Try.prog.bytesOf 36) (by
      simp only [DataW.weights, Try.underlying22]
      have e : l + (m - l) = m := by omega
      simp only [List.length_map, List.length_range, e]
      exact List.mem_cons_self)
    have hbe : Try.prog.bytesOf 36 = 16 := by kernel_rfl
    rw [hbe] at hreach
    have hr47 := reachBytes_lt
    have each : ∀ i, i < m → ∃ q : Int × Int, W.cell? (a.add (i * 2)) = some (.int .i64 q.1) ∧ W.cell? (a.add (i * 2 + 1)) = some (.int .i64 q.2) := by
      intro i hi
      obtain ⟨h1, h2, h3, h4⟩ := hx i hi
      obtain ⟨z0, e0, _, _⟩ := DataW.trod_int Try.underlying3 h3
      obtain ⟨z1, e1, _, _⟩ := DataW.trod_int Try.underlying3 h4
      simp only [List.cons.injEq, and_true] at e0 e1
      exact ⟨(z0, z1), by rw [h1, e0], by rw [h2, e1]⟩
    obtain ⟨q, hq⟩ := choose_lt each
    refine ⟨(List.range l).map q, some a, m, by simp, ?_, by simp; omega⟩
    intro hne
    have h0 : 0 < l := by
      rcases Nat.eq_zero_or_pos l with h | h
      · subst h; simp at hne
      · exact h
    obtain ⟨b, off, spot⟩ := a
    have hspot : spot = none := by simpa [Addr.add] using World.cell?_spot (hq 0 (by omega)).1
    subst hspot
    refine ⟨b, off, rfl, hlt (.cell b off) (List.mem_append_left _ (MemPlace.mem_row.2 ⟨0, by omega, by simp⟩)), fun k hk => ?_⟩
    simp at hk
    obtain ⟨g0, g1⟩ := hq k (by omega)
    have a0 : (⟨b, off, none⟩ : Addr).add (k * 2) = ⟨b, off + k * 2, none⟩ := by unfold Addr.add; split <;> simp_all
    have a1 : (⟨b, off, none⟩ : Addr).add (k * 2 + 1) = ⟨b, off + k * 2 + 1, none⟩ := by unfold Addr.add; split <;> simp_all [Nat.add_assoc]
    rw [a0] at g0
    rw [a1] at g1
    have : ((List.range l).map q).getD k (0, 0) = q k := by simp [hk]
    rw [this]
    exact ⟨g0, g1⟩

set_option maxRecDepth 100000 in
/-- an argument: a list of pairs -/
theorem arg_values {base : Nat} {v : Value} {d : DataW H} {ps : List MemPlace} (hv : Value.okWide Try.prog W .any base 22 v) (h : DataW.Trod enc Try.prog W 0 (fun _ => true) true 22 v d ps) (hw : ∀ n ∈ d.weights Try.prog 22, n ≤ reachBytes) :
    ∃ (es : List (Int × Int)) (ad : Option Addr) (cap : Nat), v = .slice ad es.length cap ∧ EdgesAt W.heap.size W ad es ∧ es.length ≤ 17592186044416 := by
  obtain ⟨a1, len1, cap1, rfl⟩ := okWide_slice Try.underlying22 hv
  obtain ⟨fuel, hf⟩ := h
  obtain ⟨es, ad, cap, e, h1, h2⟩ := cells_values hf hw
  simp only [Value.cells, List.cons.injEq, and_true] at e
  exact ⟨es, ad, cap, e, h1, h2⟩


end

end Go.Proofs.Ytmhjhdgaecdloaa
