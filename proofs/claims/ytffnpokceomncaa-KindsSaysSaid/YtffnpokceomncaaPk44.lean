
/-
  What is handed in, opened: a list of numbers, a graph, a matroid. Nothing of the program is proved here.
  What is handed in, opened: a matrix.
-/
import Derived.Test.YtffnpokceomncaaPk02
import Derived.SizedLaws
import Derived.Carry
import Derived.Test.YtffnpokceomncaaPk20
namespace Go.Proofs.Ytffnpokceomncaa
open Go.ChangeShapes Go.WideShapes Go.ChangeAt Go.RowKit Go.Deep Go.Joins
set_option linter.unusedVariables false

theorem prog_own : ownKnob Try.prog.godebug = none := by kernel_rfl
theorem prog_laid : laidOutB Try.prog = true := by kernel_rfl
theorem prog_int8 : Try.prog.bytesOf 3 = 8 := by kernel_rfl

theorem weighs {H : Type} {P : Program} {ts : List TypeId} {ds : List (DataW H)} (h : (DataW.weightsEach P ts ds).all (· ≤ reachBytes) = true) {j : Nat} {t : TypeId} {d : DataW H} (ht : ts[j]? = some t) (hd : ds[j]? = some d) : ∀ n ∈ d.weights P t, n ≤ reachBytes := fun n hn => by
  simpa using List.all_eq_true.1 h _ (DataW.weights_mem_each ht hd n hn)

section
variable {H : Type} {enc : TypeId × Value → H} {W : World}

theorem cells_ints {fuel : Nat} {cs : List Value} {x : DataW H × List MemPlace} (h : DataW.trod enc Try.prog W 0 (fun _ => true) true fuel 35 cs = some x) (hw : ∀ n ∈ x.1.weights Try.prog 35, n ≤ reachBytes) :
    ∃ (xs : List Int) (ad : Option Addr) (cap : Nat), cs = [.slice ad xs.length cap] ∧ IntsAt W.heap.size W ad xs ∧ xs.length ≤ 17592186044416 ∧ (ad = none → cap = 0) ∧ xs.length ≤ cap := by
  have hlt := DataW.trod_lt fuel _ _ _ h
  rcases open_ints Try.underlying35 Try.underlying3 (by kernel_rfl) h with ⟨rfl, rfl⟩ | ⟨a, l, c, zs, rfl, _, hl, hm, hz, rfl, hcell, hwz⟩
  · exact ⟨[], none, 0, rfl, IntsAt.nil, by simp, fun _ => rfl, Nat.le_refl _⟩
  · simp only [if_true] at hz
    have hreach := hw ((lits IntKind.i64 (zs.take l)).length * 8 + (lits IntKind.i64 (zs.drop l)).length * 8) (by
      simp only [DataW.weights, Try.underlying35, prog_int8]
      rw [← Nat.add_mul]
      exact List.mem_cons_self)
    simp only [lits, List.length_map, List.length_take, List.length_drop, reachBytes] at hreach
    have hlen : (zs.take l).length = l := by simp; omega
    refine ⟨zs.take l, some a, c, by rw [hlen], IntsAt.of_cells (ps := []) (by simpa using hlt) hz hcell, by rw [hlen]; omega, (fun h => by cases h), by rw [hlen]; exact hl⟩

theorem cells_edges {fuel : Nat} {cs : List Value} {x : DataW H × List MemPlace} (h : DataW.trod enc Try.prog W 0 (fun _ => true) true fuel 40 cs = some x) (hw : ∀ n ∈ x.1.weights Try.prog 40, n ≤ reachBytes) :
    ∃ (es : List (Int × Int)) (ad : Option Addr) (cap : Nat), cs = [.slice ad es.length cap] ∧ EdgesAt W.heap.size W ad es ∧ es.length ≤ 17592186044416 := by
  have hlt := DataW.trod_lt fuel _ _ _ h
  rcases open_slice_pairs Try.underlying40 Try.underlying68 (by kernel_rfl) rfl rfl (by kernel_rfl) (by kernel_rfl) h with ⟨rfl, rfl⟩ | ⟨a, l, c, m, n, V0, V1, D0, D1, P0, P1, rfl, hb, hl, hm, hmm, rfl, hx⟩
  · exact ⟨[], none, 0, rfl, fun h => absurd rfl h, by simp⟩
  · simp only [if_true] at hmm
    subst hmm
    have hreach := hw (m * Try.prog.bytesOf 68) (by
      simp only [DataW.weights, Try.underlying40]
      have e : l + (m - l) = m := by omega
      simp only [List.length_map, List.length_range, e]
      exact List.mem_cons_self)
    have hbe : Try.prog.bytesOf 68 = 16 := by kernel_rfl
    rw [hbe] at hreach
    have hr47 := reachBytes_lt
    have each : ∀ i, i < m → ∃ q : Int × Int, W.cell? (a.add (i * 2)) = some (.int .i64 q.1) ∧ W.cell? (a.add (i * 2 + 1)) = some (.int .i64 q.2) := by
      intro i hi
      obtain ⟨h1, h2, h3, h4⟩ := hx i hi
      obtain ⟨z0, e0, _, _⟩ := DataW.trod_int Try.underlying3 h3
      obtain ⟨z1, e1, _, _⟩ := DataW.trod_int Try.underlying3 h4
      simp only [List.cons.injEq, and_true] at e0 e1
      exact ⟨(z0, z1), by rw [h1, e0], by rw [h2, e1]⟩
    obtain ⟨q, hq⟩ := choose_lt each
    refine ⟨(List.range l).map q, some a, m, by simp, ?_, by simp; omega⟩
    intro hne
    have h0 : 0 < l := by
      rcases Nat.eq_zero_or_pos l with h | h
      · subst h; simp at hne
      · exact h
    obtain ⟨b, off, spot⟩ := a
    have hspot : spot = none := by simpa [Addr.add] using World.cell?_spot (hq 0 (by omega)).1
    subst hspot
    refine ⟨b, off, rfl, hlt (.cell b off) (List.mem_append_left _ (MemPlace.mem_row.2 ⟨0, by omega, by simp⟩)), fun k hk => ?_⟩
    simp at hk
    obtain ⟨g0, g1⟩ := hq k (by omega)
    have a0 : (⟨b, off, none⟩ : Addr).add (k * 2) = ⟨b, off + k * 2, none⟩ := by unfold Addr.add; split <;> simp_all
    have a1 : (⟨b, off, none⟩ : Addr).add (k * 2 + 1) = ⟨b, off + k * 2 + 1, none⟩ := by unfold Addr.add; split <;> simp_all [Nat.add_assoc]
    rw [a0] at g0
    rw [a1] at g1
    have : ((List.range l).map q).getD k (0, 0) = q k := by simp [hk]
    rw [this]
    exact ⟨g0, g1⟩

set_option maxRecDepth 100000 in
/-- an argument: a list of numbers -/
theorem arg_ints {base : Nat} {v : Value} {d : DataW H} {ps : List MemPlace} (hv : Value.okWide Try.prog W .any base 35 v) (h : DataW.Trod enc Try.prog W 0 (fun _ => true) true 35 v d ps) (hw : ∀ n ∈ d.weights Try.prog 35, n ≤ reachBytes) :
    ∃ (xs : List Int) (ad : Option Addr) (cap : Nat), v = .slice ad xs.length cap ∧ IntsAt W.heap.size W ad xs ∧ xs.length ≤ 17592186044416 ∧ xs.length ≤ cap := by
  obtain ⟨a1, len1, cap1, rfl⟩ := okWide_slice Try.underlying35 hv
  obtain ⟨fuel, hf⟩ := h
  obtain ⟨xs, ad, cap, e, h1, h2, _, h3⟩ := cells_ints hf hw
  simp only [Value.cells, List.cons.injEq, and_true] at e
  exact ⟨xs, ad, cap, e, h1, h2, h3⟩

set_option maxRecDepth 100000 in
/-- an argument, with what nil is: a list of numbers -/
theorem arg_intsN {base : Nat} {v : Value} {d : DataW H} {ps : List MemPlace} (hv : Value.okWide Try.prog W .any base 35 v) (h : DataW.Trod enc Try.prog W 0 (fun _ => true) true 35 v d ps) (hw : ∀ n ∈ d.weights Try.prog 35, n ≤ reachBytes) :
    ∃ (xs : List Int) (ad : Option Addr) (cap : Nat), v = .slice ad xs.length cap ∧ IntsAt W.heap.size W ad xs ∧ xs.length ≤ 17592186044416 ∧ xs.length ≤ cap ∧ (ad = none → cap = 0) := by
  obtain ⟨a1, len1, cap1, rfl⟩ := okWide_slice Try.underlying35 hv
  obtain ⟨fuel, hf⟩ := h
  obtain ⟨xs, ad, cap, e, h1, h2, h4, h3⟩ := cells_ints hf hw
  simp only [Value.cells, List.cons.injEq, and_true] at e
  exact ⟨xs, ad, cap, e, h1, h2, h3, h4⟩

set_option maxRecDepth 100000 in
/-- an argument: a graph -/
theorem arg_graph {base : Nat} {v : Value} {d : DataW H} {ps : List MemPlace} (hv : Value.okWide Try.prog W .any base 42 v) (h : DataW.Trod enc Try.prog W 0 (fun _ => true) true 42 v d ps) (hw : ∀ n ∈ d.weights Try.prog 42, n ≤ reachBytes) :
    ∃ (n : Int) (es : List (Int × Int)) (ad : Option Addr) (cap : Nat), v = .agg #[.int .i64 n, .slice ad es.length cap] ∧ EdgesAt W.heap.size W ad es ∧ es.length ≤ 17592186044416 := by
  obtain ⟨v0, v1, y0, y1, n, rfl, rfl, rfl, h0, h1⟩ := open_agg2 Try.underlying42 (by kernel_rfl) (by kernel_rfl) hv h
  obtain ⟨z0, e0, _, _⟩ := DataW.trod_int Try.underlying3 h0
  obtain ⟨es, ad, cap, e1, h2, h3⟩ := cells_edges h1 (fun m hm => hw m (by
    simp only [DataW.weights, Try.underlying42, DataW.weightsEach, List.map_cons, List.map_nil, List.mem_append]
    exact .inr (.inl hm)))
  simp only [List.cons.injEq, and_true] at e0 e1
  exact ⟨z0, es, ad, cap, by rw [e0, e1], h2, h3⟩

set_option maxRecDepth 100000 in
/-- an argument: a list of pairs -/
theorem arg_edges {base : Nat} {v : Value} {d : DataW H} {ps : List MemPlace} (hv : Value.okWide Try.prog W .any base 40 v) (h : DataW.Trod enc Try.prog W 0 (fun _ => true) true 40 v d ps) (hw : ∀ n ∈ d.weights Try.prog 40, n ≤ reachBytes) :
    ∃ (es : List (Int × Int)) (ad : Option Addr) (cap : Nat), v = .slice ad es.length cap ∧ EdgesAt W.heap.size W ad es ∧ es.length ≤ 17592186044416 := by
  obtain ⟨a1, len1, cap1, rfl⟩ := okWide_slice Try.underlying40 hv
  obtain ⟨fuel, hf⟩ := h
  obtain ⟨es, ad, cap, e, h1, h2⟩ := cells_edges hf hw
  simp only [Value.cells, List.cons.injEq, and_true] at e
  exact ⟨es, ad, cap, e, h1, h2⟩

set_option maxRecDepth 100000 in
/-- an argument: a matroid -/
theorem arg_matroid {base : Nat} {v : Value} {d : DataW H} {ps : List MemPlace} (hv : Value.okWide Try.prog W .any base 45 v) (h : DataW.Trod enc Try.prog W 0 (fun _ => true) true 45 v d ps) (hw : ∀ n ∈ d.weights Try.prog 45, n ≤ reachBytes) :
    ∃ (n : Int) (xs : List Int) (ad : Option Addr) (cap : Nat), v = .agg #[.int .i64 n, .slice ad xs.length cap] ∧ IntsAt W.heap.size W ad xs ∧ xs.length ≤ 17592186044416 := by
  obtain ⟨v0, v1, y0, y1, n, rfl, rfl, rfl, h0, h1⟩ := open_agg2 Try.underlying45 (by kernel_rfl) (by kernel_rfl) hv h
  obtain ⟨z0, e0, _, _⟩ := DataW.trod_int Try.underlying3 h0
  obtain ⟨xs, ad, cap, e1, h2, h3, _⟩ := cells_ints h1 (fun m hm => hw m (by
    simp only [DataW.weights, Try.underlying45, DataW.weightsEach, List.map_cons, List.map_nil, List.mem_append]
    exact .inr (.inl hm)))
  simp only [List.cons.injEq, and_true] at e0 e1
  exact ⟨z0, xs, ad, cap, by rw [e0, e1], h2, h3⟩

end
/-- a whole number that is well formed is below 2^63 -/
theorem wf_lt {a : Int} (h : (Lit.int .i64 a).wf = true) : a < 9223372036854775808 := by
  simp only [Lit.wf, Bool.and_eq_true, decide_eq_true_eq] at h
  have hm : IntKind.i64.max = 9223372036854775807 := by decide
  omega

end Go.Proofs.Ytffnpokceomncaa

namespace Go.Proofs.Ytffnpokceomncaa
open Go.ChangeShapes Go.WideShapes Go.ChangeAt Go.RowKit Go.Deep Go.Joins
set_option linter.unusedVariables false

theorem weightsAll_mem {H : Type} {P : Program} {e : TypeId} {d : DataW H} {n : Nat} (hn : n ∈ d.weights P e) : ∀ {l : List (DataW H)}, d ∈ l → n ∈ DataW.weightsAll P e l
  | [], h => by cases h
  | x :: r, h => by
    simp only [DataW.weightsAll, List.mem_append]
    rcases List.mem_cons.1 h with rfl | h
    · exact .inl hn
    · exact .inr (weightsAll_mem hn h)

section
variable {H : Type} {enc : TypeId × Value → H} {W : World}

theorem cells_rows {fuel : Nat} {cs : List Value} {x : DataW H × List MemPlace} (h : DataW.trod enc Try.prog W 0 (fun _ => true) true fuel 22 cs = some x) (hw : ∀ n ∈ x.1.weights Try.prog 22, n ≤ reachBytes) :
    ∃ (rows : Lls) (ad : Option Addr) (cap : Nat), cs = [.slice ad rows.length cap] ∧ RowsI W.heap.size W ad rows ∧ rows.length ≤ 17592186044416 ∧ (∀ i, i < rows.length → (rows.getD i []).length ≤ 17592186044416) ∧ rows.length ≤ cap ∧ (ad = none → cap = 0) := by
  have hlt := DataW.trod_lt fuel _ _ _ h
  rcases open_slice1 Try.underlying22 (by kernel_rfl) h with ⟨rfl, rfl⟩ | ⟨a, l, c, m, n, V, D, Pl, rfl, hb, hl, hm, hmm, rfl, hx⟩
  · exact ⟨[], none, 0, rfl, RowsI.nil _ _ _, by simp, fun i hi => by simp at hi, Nat.le_refl _, fun _ => rfl⟩
  · simp only [if_true] at hmm
    subst hmm
    have hreach := hw (m * Try.prog.bytesOf 35) (by
      simp only [DataW.weights, Try.underlying22]
      have e : l + (m - l) = m := by omega
      simp only [List.length_map, List.length_range, e]
      exact List.mem_cons_self)
    have hbe : Try.prog.bytesOf 35 = 24 := by kernel_rfl
    rw [hbe] at hreach
    have hr47 := reachBytes_lt
    have each : ∀ i, i < l → ∃ q : List Int, ∃ ad' cp', W.cell? (a.add i) = some (.slice ad' q.length cp') ∧ IntsAt W.heap.size W ad' q ∧ q.length ≤ 17592186044416 ∧ (ad' = none → cp' = 0) := by
      intro i hi
      obtain ⟨h1, h2⟩ := hx i (by omega)
      obtain ⟨xs, ad', cap', e, hI, hle, hn, _⟩ := cells_ints h2 (fun k hk => hw k (by
        simp only [DataW.weights, Try.underlying22]
        refine List.mem_cons_of_mem _ (List.mem_append_left _ (weightsAll_mem hk ?_))
        exact List.mem_map.2 ⟨i, by simpa using hi, rfl⟩))
      simp only [List.cons.injEq, and_true] at e
      exact ⟨xs, ad', cap', by rw [h1, e], hI, hle, hn⟩
    obtain ⟨q, hq⟩ := choose_lt each
    have hget : ∀ i, i < l → ((List.range l).map q).getD i [] = q i := fun i hi => by simp [hi]
    refine ⟨(List.range l).map q, some a, m, by simp, ?_, by simp; omega, fun i hi => ?_, by simp; omega, fun e => by cases e⟩
    · intro hne
      have h0 : 0 < l := by
        rcases Nat.eq_zero_or_pos l with h | h
        · subst h; simp at hne
        · exact h
      obtain ⟨b, off, spot⟩ := a
      obtain ⟨_, _, hc0, _⟩ := hq 0 h0
      have hspot : spot = none := by simpa [Addr.add] using World.cell?_spot hc0
      subst hspot
      refine ⟨b, off, rfl, hlt (.cell b off) (List.mem_append_left _ (MemPlace.mem_row.2 ⟨0, by omega, by simp⟩)), fun i hi => ?_⟩
      simp at hi
      obtain ⟨ad', cp', hc, hI, _, hn⟩ := hq i hi
      have a0 : (⟨b, off, none⟩ : Addr).add i = ⟨b, off + i, none⟩ := by unfold Addr.add; split <;> simp_all
      rw [a0] at hc
      rw [hget i hi]
      exact ⟨ad', cp', hc, hI, hn⟩
    · simp at hi
      rw [hget i hi]
      obtain ⟨_, _, _, _, hle, _⟩ := hq i hi
      exact hle

set_option maxRecDepth 100000 in
/-- an argument: a matrix -/
theorem arg_matrix {base : Nat} {v : Value} {d : DataW H} {ps : List MemPlace} (hv : Value.okWide Try.prog W .any base 24 v) (h : DataW.Trod enc Try.prog W 0 (fun _ => true) true 24 v d ps) (hw : ∀ n ∈ d.weights Try.prog 24, n ≤ reachBytes) :
    ∃ (p c : Int) (rows : Lls) (ad : Option Addr) (cap : Nat), v = .agg #[.int .i64 p, .int .i64 c, .slice ad rows.length cap] ∧ RowsI W.heap.size W ad rows ∧ (rows.length ≤ 17592186044416 ∧ (∀ i, i < rows.length → (rows.getD i []).length ≤ 17592186044416) ∧ rows.length ≤ cap ∧ (ad = none → cap = 0)) := by
  obtain ⟨v0, v1, v2, y0, y1, y2, n, rfl, rfl, rfl, h0, h1, h2⟩ := open_agg3 Try.underlying24 (by kernel_rfl) (by kernel_rfl) hv h
  obtain ⟨z0, e0, _, _⟩ := DataW.trod_int Try.underlying3 h0
  obtain ⟨z1, e1, _, _⟩ := DataW.trod_int Try.underlying3 h1
  obtain ⟨rows, ad, cap, e2, h3, h4⟩ := cells_rows h2 (fun m hm => hw m (by
    simp only [DataW.weights, Try.underlying24, DataW.weightsEach, List.map_cons, List.map_nil, List.mem_append]
    exact .inr (.inr (.inl hm))))
  simp only [List.cons.injEq, and_true] at e0 e1 e2
  exact ⟨z0, z1, rows, ad, cap, by rw [e0, e1, e2], h3, h4⟩

end

end Go.Proofs.Ytffnpokceomncaa
