
/-
  What is handed in, opened: a list of numbers, a graph, a matroid. Nothing of the program is proved here.
-/
import Derived.Test.YtjenaglgloaejaaPk02
import Derived.SizedLaws
import Derived.Carry
namespace Go.Proofs.Ytjenaglgloaejaa
open Go.ChangeShapes Go.WideShapes Go.ChangeAt Go.RowKit Go.Deep Go.Joins
set_option linter.unusedVariables false

theorem prog_own : ownKnob Try.prog.godebug = none := by kernel_rfl
theorem prog_laid : laidOutB Try.prog = true := by kernel_rfl
theorem prog_int8 : Try.prog.bytesOf 3 = 8 := by kernel_rfl

theorem weighs {H : Type} {P : Program} {ts : List TypeId} {ds : List (DataW H)} (h : (DataW.weightsEach P ts ds).all (· ≤ reachBytes) = true) {j : Nat} {t : TypeId} {d : DataW H} (ht : ts[j]? = some t) (hd : ds[j]? = some d) : ∀ n ∈ d.weights P t, n ≤ reachBytes := fun n hn => by
  simpa using List.all_eq_true.1 h _ (DataW.weights_mem_each ht hd n hn)

section
variable {H : Type} {enc : TypeId × Value → H} {W : World}

theorem cells_ints {fuel : Nat} {cs : List Value} {x : DataW H × List MemPlace} (h : DataW.trod enc Try.prog W 0 (fun _ => true) true fuel 22 cs = some x) (hw : ∀ n ∈ x.1.weights Try.prog 22, n ≤ reachBytes) :
    ∃ (xs : List Int) (ad : Option Addr) (cap : Nat), cs = [.slice ad xs.length cap] ∧ IntsAt W.heap.size W ad xs ∧ xs.length ≤ 17592186044416 ∧ (ad = none → cap = 0) ∧ xs.length ≤ cap := by
  have hlt := DataW.trod_lt fuel _ _ _ h
  rcases open_ints Try.underlying22 Try.underlying3 (by kernel_rfl) h with ⟨rfl, rfl⟩ | ⟨a, l, c, zs, rfl, _, hl, hm, hz, rfl, hcell, hwz⟩
  · exact ⟨[], none, 0, rfl, IntsAt.nil, by simp, fun _ => rfl, Nat.le_refl _⟩
  · simp only [if_true] at hz
    have hreach := hw ((lits IntKind.i64 (zs.take l)).length * 8 + (lits IntKind.i64 (zs.drop l)).length * 8) (by
      simp only [DataW.weights, Try.underlying22, prog_int8]
      rw [← Nat.add_mul]
      exact List.mem_cons_self)
    simp only [lits, List.length_map, List.length_take, List.length_drop, reachBytes] at hreach
    have hlen : (zs.take l).length = l := by simp; omega
    refine ⟨zs.take l, some a, c, by rw [hlen], IntsAt.of_cells (ps := []) (by simpa using hlt) hz hcell, by rw [hlen]; omega, (fun h => by cases h), by rw [hlen]; exact hl⟩


set_option maxRecDepth 100000 in
/-- an argument: a list of numbers -/
theorem arg_ints {base : Nat} {v : Value} {d : DataW H} {ps : List MemPlace} (hv : Value.okWide Try.prog W .any base 22 v) (h : DataW.Trod enc Try.prog W 0 (fun _ => true) true 22 v d ps) (hw : ∀ n ∈ d.weights Try.prog 22, n ≤ reachBytes) :
    ∃ (xs : List Int) (ad : Option Addr) (cap : Nat), v = .slice ad xs.length cap ∧ IntsAt W.heap.size W ad xs ∧ xs.length ≤ 17592186044416 ∧ xs.length ≤ cap := by
  obtain ⟨a1, len1, cap1, rfl⟩ := okWide_slice Try.underlying22 hv
  obtain ⟨fuel, hf⟩ := h
  obtain ⟨xs, ad, cap, e, h1, h2, _, h3⟩ := cells_ints hf hw
  simp only [Value.cells, List.cons.injEq, and_true] at e
  exact ⟨xs, ad, cap, e, h1, h2, h3⟩

set_option maxRecDepth 100000 in
/-- an argument, with what nil is: a list of numbers -/
theorem arg_intsN {base : Nat} {v : Value} {d : DataW H} {ps : List MemPlace} (hv : Value.okWide Try.prog W .any base 22 v) (h : DataW.Trod enc Try.prog W 0 (fun _ => true) true 22 v d ps) (hw : ∀ n ∈ d.weights Try.prog 22, n ≤ reachBytes) :
    ∃ (xs : List Int) (ad : Option Addr) (cap : Nat), v = .slice ad xs.length cap ∧ IntsAt W.heap.size W ad xs ∧ xs.length ≤ 17592186044416 ∧ xs.length ≤ cap ∧ (ad = none → cap = 0) := by
  obtain ⟨a1, len1, cap1, rfl⟩ := okWide_slice Try.underlying22 hv
  obtain ⟨fuel, hf⟩ := h
  obtain ⟨xs, ad, cap, e, h1, h2, h4, h3⟩ := cells_ints hf hw
  simp only [Value.cells, List.cons.injEq, and_true] at e
  exact ⟨xs, ad, cap, e, h1, h2, h3, h4⟩



set_option maxRecDepth 100000 in
/-- an argument: a matroid -/
theorem arg_matroid {base : Nat} {v : Value} {d : DataW H} {ps : List MemPlace} (hv : Value.okWide Try.prog W .any base 24 v) (h : DataW.Trod enc Try.prog W 0 (fun _ => true) true 24 v d ps) (hw : ∀ n ∈ d.weights Try.prog 24, n ≤ reachBytes) :
    ∃ (n : Int) (xs : List Int) (ad : Option Addr) (cap : Nat), v = .agg #[.int .i64 n, .slice ad xs.length cap] ∧ IntsAt W.heap.size W ad xs ∧ xs.length ≤ 17592186044416 := by
  obtain ⟨v0, v1, y0, y1, n, rfl, rfl, rfl, h0, h1⟩ := open_agg2 Try.underlying24 (by kernel_rfl) (by kernel_rfl) hv h
  obtain ⟨z0, e0, _, _⟩ := DataW.trod_int Try.underlying3 h0
  obtain ⟨xs, ad, cap, e1, h2, h3, _⟩ := cells_ints h1 (fun m hm => hw m (by
    simp only [DataW.weights, Try.underlying24, DataW.weightsEach, List.map_cons, List.map_nil, List.mem_append]
    exact .inr (.inl hm)))
  simp only [List.cons.injEq, and_true] at e0 e1
  exact ⟨z0, xs, ad, cap, by rw [e0, e1], h2, h3⟩

end
/-- a whole number that is well formed is below 2^63 -/
theorem wf_lt {a : Int} (h : (Lit.int .i64 a).wf = true) : a < 9223372036854775808 := by
  simp only [Lit.wf, Bool.and_eq_true, decide_eq_true_eq] at h
  have hm : IntKind.i64.max = 9223372036854775807 := by decide
  omega

end Go.Proofs.Ytjenaglgloaejaa
