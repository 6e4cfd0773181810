
/-
  What is handed in, opened: a matrix.
-/
import Derived.Test.YtffnpokceomncaaLift
import Derived.Test.YtffnpokceomncaaMx
namespace Go.Proofs.Ytffnpokceomncaa
open Go.ChangeShapes Go.WideShapes Go.ChangeAt Go.RowKit Go.Deep Go.Joins
set_option linter.unusedVariables false

theorem weightsAll_mem {H : Type} {P : Program} {e : TypeId} {d : DataW H} {n : Nat} (hn : n ∈ d.weights P e) : ∀ {l : List (DataW H)}, d ∈ l → n ∈ DataW.weightsAll P e l
  | [], h => by cases h
  | x :: r, h => by
    simp only [DataW.weightsAll, List.mem_append]
    rcases List.mem_cons.1 h with rfl | h
    · exact .inl hn
    · exact .inr (weightsAll_mem hn h)

section
variable {H : Type} {enc : TypeId × Value → H} {W : World}

theorem cells_rows {fuel : Nat} {cs : List Value} {x : DataW H × List MemPlace} (h : DataW.trod enc Try.prog W 0 (fun _ => true) true fuel 22 cs = some x) (hw : ∀ n ∈ x.1.weights Try.prog 22, n ≤ reachBytes) :
    ∃ (rows : Lls) (ad : Option Addr) (cap : Nat), cs = [.slice ad rows.length cap] ∧ RowsI W.heap.size W ad rows ∧ rows.length ≤ 17592186044416 ∧ (∀ i, i < rows.length → (rows.getD i []).length ≤ 17592186044416) ∧ rows.length ≤ cap ∧ (ad = none → cap = 0) := by
  have hlt := DataW.trod_lt fuel _ _ _ h
  rcases open_slice1 Try.underlying22 (by kernel_rfl) h with ⟨rfl, rfl⟩ | ⟨a, l, c, m, n, V, D, Pl, rfl, hb, hl, hm, hmm, rfl, hx⟩
  · exact ⟨[], none, 0, rfl, RowsI.nil _ _ _, by simp, fun i hi => by simp at hi, Nat.le_refl _, fun _ => rfl⟩
  · simp only [if_true] at hmm
    subst hmm
    have hreach := hw (m * Try.prog.bytesOf 35) (by
      simp only [DataW.weights, Try.underlying22]
      have e : l + (m - l) = m := by omega
      simp only [List.length_map, List.length_range, e]
      exact List.mem_cons_self)
    have hbe : Try.prog.bytesOf 35 = 24 := by kernel_rfl
    rw [hbe] at hreach
    have hr47 := reachBytes_lt
    have each : ∀ i, i < l → ∃ q : List Int, ∃ ad' cp', W.cell? (a.add i) = some (.slice ad' q.length cp') ∧ IntsAt W.heap.size W ad' q ∧ q.length ≤ 17592186044416 ∧ (ad' = none → cp' = 0) := by
      intro i hi
      obtain ⟨h1, h2⟩ := hx i (by omega)
      obtain ⟨xs, ad', cap', e, hI, hle, hn, _⟩ := cells_ints h2 (fun k hk => hw k (by
        simp only [DataW.weights, Try.underlying22]
        refine List.mem_cons_of_mem _ (List.mem_append_left _ (weightsAll_mem hk ?_))
        exact List.mem_map.2 ⟨i, by simpa using hi, rfl⟩))
      simp only [List.cons.injEq, and_true] at e
      exact ⟨xs, ad', cap', by rw [h1, e], hI, hle, hn⟩
    obtain ⟨q, hq⟩ := choose_lt each
    have hget : ∀ i, i < l → ((List.range l).map q).getD i [] = q i := fun i hi => by simp [hi]
    refine ⟨(List.range l).map q, some a, m, by simp, ?_, by simp; omega, fun i hi => ?_, by simp; omega, fun e => by cases e⟩
    · intro hne
      have h0 : 0 < l := by
        rcases Nat.eq_zero_or_pos l with h | h
        · subst h; simp at hne
        · exact h
      obtain ⟨b, off, spot⟩ := a
      obtain ⟨_, _, hc0, _⟩ := hq 0 h0
      have hspot : spot = none := by simpa [Addr.add] using World.cell?_spot hc0
      subst hspot
      refine ⟨b, off, rfl, hlt (.cell b off) (List.mem_append_left _ (MemPlace.mem_row.2 ⟨0, by omega, by simp⟩)), fun i hi => ?_⟩
      simp at hi
      obtain ⟨ad', cp', hc, hI, _, hn⟩ := hq i hi
      have a0 : (⟨b, off, none⟩ : Addr).add i = ⟨b, off + i, none⟩ := by unfold Addr.add; split <;> simp_all
      rw [a0] at hc
      rw [hget i hi]
      exact ⟨ad', cp', hc, hI, hn⟩
    · simp at hi
      rw [hget i hi]
      obtain ⟨_, _, _, _, hle, _⟩ := hq i hi
      exact hle

set_option maxRecDepth 100000 in
/-- an argument: a matrix -/
theorem arg_matrix {base : Nat} {v : Value} {d : DataW H} {ps : List MemPlace} (hv : Value.okWide Try.prog W .any base 24 v) (h : DataW.Trod enc Try.prog W 0 (fun _ => true) true 24 v d ps) (hw : ∀ n ∈ d.weights Try.prog 24, n ≤ reachBytes) :
    ∃ (p c : Int) (rows : Lls) (ad : Option Addr) (cap : Nat), v = .agg #[.int .i64 p, .int .i64 c, .slice ad rows.length cap] ∧ RowsI W.heap.size W ad rows ∧ (rows.length ≤ 17592186044416 ∧ (∀ i, i < rows.length → (rows.getD i []).length ≤ 17592186044416) ∧ rows.length ≤ cap ∧ (ad = none → cap = 0)) := by
  obtain ⟨v0, v1, v2, y0, y1, y2, n, rfl, rfl, rfl, h0, h1, h2⟩ := open_agg3 Try.underlying24 (by kernel_rfl) (by kernel_rfl) hv h
  obtain ⟨z0, e0, _, _⟩ := DataW.trod_int Try.underlying3 h0
  obtain ⟨z1, e1, _, _⟩ := DataW.trod_int Try.underlying3 h1
  obtain ⟨rows, ad, cap, e2, h3, h4⟩ := cells_rows h2 (fun m hm => hw m (by
    simp only [DataW.weights, Try.underlying24, DataW.weightsEach, List.map_cons, List.map_nil, List.mem_append]
    exact .inr (.inr (.inl hm))))
  simp only [List.cons.injEq, and_true] at e0 e1 e2
  exact ⟨z0, z1, rows, ad, cap, by rw [e0, e1, e2], h3, h4⟩

end

end Go.Proofs.Ytffnpokceomncaa
