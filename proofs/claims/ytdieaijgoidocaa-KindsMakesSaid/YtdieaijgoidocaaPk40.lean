
/-
  rotalaw.KindsMakes, whatever it is handed.
  What is handed in, opened: a list of numbers, a graph, a matroid. Nothing of the program is proved here.
-/
import Derived.Test.YtdieaijgoidocaaPk37
import Derived.Test.YtdieaijgoidocaaPk38
import Derived.Test.YtdieaijgoidocaaPk39
import Derived.Test.YtdieaijgoidocaaPk13
import Derived.Test.YtdieaijgoidocaaPk16
import Derived.Test.YtdieaijgoidocaaPk02
import Derived.SizedLaws
import Derived.Carry
namespace Go.Proofs.Ytdieaijgoidocaa
open Go.RowKit
set_option linter.unusedVariables false

theorem km_nat {n : Int} {l : List Int} (h0 : 0 ≤ n) (h8 : n ≤ 8) (h : ∀ i, i < l.length → 0 ≤ l.getD i 0 ∧ l.getD i 0 ≤ all n) : ∃ (m : Nat) (L : List Nat), n = (m : Int) ∧ m ≤ 8 ∧ l = ints L ∧ ∀ i, i < L.length → L.getD i 0 < 256 := by
  obtain ⟨m, rfl⟩ := Int.eq_ofNat_of_zero_le h0
  refine ⟨m, toN l, rfl, by omega, (ints_toN (fun i hi => (h i hi).1)).symm, fun i hi => ?_⟩
  have hl : (toN l).length = l.length := by simp [toN]
  have h2 := h i (by omega)
  have e := ints_toN (fun i hi => (h i hi).1)
  have h3 : ((toN l).getD i 0 : Int) = l.getD i 0 := by rw [← ints_getD, e]
  have := bit_le m (by omega)
  rw [all_nat] at h2
  omega
theorem LamIs.ex (n : Int) (l mo : List Int) : ∃ e, LamIs n l mo e := by
  by_cases h : isFam n l
  · by_cases g : mo.length = l.length
    · obtain ⟨m, L, _, _, hL, _⟩ := km_nat h.1 h.2.1 (fun i hi => ⟨(h.2.2 i hi).1, (h.2.2 i hi).2.1⟩)
      exact ⟨lamE L mo L.length, fun c => absurd h c, fun _ c => absurd g c, fun _ _ => ⟨L, hL, rfl⟩⟩
    · exact ⟨3, fun c => absurd h c, fun _ _ => rfl, fun _ c => absurd c g⟩
  · exact ⟨1, fun _ => rfl, fun c => absurd c h, fun c => absurd c h⟩

theorem km_len {m : Nat} (hm : m ≤ 8) (p : Nat → Bool) : (ints (biggest (those m p))).length ≤ 1048576 := by
  rw [ints_len, biggest_eq]
  have h1 := thoseTo_len p (bit m)
  have e : those m p = thoseTo p (bit m) := rfl
  have := bit_le m hm
  exact Nat.le_trans (List.length_filter_le _ _) (by rw [e]; omega)

theorem law_kindsMakes {B : Nat} {W : World} (u : Later B W) (n : Int) (l mo : List Int) (t : ByteArray) (a b : Option Addr) (cap capb : Nat) (hi : IntsAt B W a l) (hj : IntsAt B W b mo) (hlen : l.length ≤ 4611686018427387904) (hlen2 : mo.length ≤ 4611686018427387904) (hcap : l.length ≤ cap) :
    Calls Try.prog 3 #[.int .i64 n, .slice a l.length cap, .slice b mo.length capb, .string t] u.val (Ret B W (.bool true)) := by
  obtain ⟨e, he⟩ := LisIs.ex n l
  obtain ⟨f, hf⟩ := LamIs.ex n l mo
  obtain ⟨g, nN, ok, xN, hN, hR, hg, hlN, hzN⟩ := named_same t
  have hE : e = 0 → okL n l ∧ l.length ≤ 8 := fun h => by
    by_cases c : okL n l
    · by_cases c2 : l.length ≤ 8
      · exact ⟨c, c2⟩
      · have := he.2.1 c (by omega); omega
    · have := he.1 c; omega
  have hF : f = 0 → isFam n l ∧ mo.length = l.length := fun h => by
    by_cases c : isFam n l
    · by_cases c2 : mo.length = l.length
      · exact ⟨c, c2⟩
      · have := hf.2.1 c c2; omega
    · have := hf.1 c; omega
  have hT : ∃ (nA : Int) (xA : List Int), ZIf e nA xA ∧ xA.length ≤ 1048576 ∧ (e = 0 → ∃ (m : Nat) (L : List Nat), n = (m : Int) ∧ m ≤ 8 ∧ l = ints L ∧ L.length ≤ 8 ∧ (∀ i, i < L.length → L.getD i 0 < 256) ∧ nA = m ∧ xA = ints (biggest (those m (hallB L)))) := by
    by_cases c : e = 0
    · obtain ⟨h1, h2⟩ := hE c
      obtain ⟨m, L, hm, hm8, hL, hL8⟩ := km_nat h1.1 h1.2.1 (fun i hi => ⟨(h1.2.2 i hi).2.2.1, (h1.2.2 i hi).2.2.2⟩)
      exact ⟨m, _, fun h => absurd c h, km_len hm8 (hallB L), fun _ => ⟨m, L, hm, hm8, hL, by rw [hL, ints_len] at h2; exact h2, hL8, rfl, rfl⟩⟩
    · exact ⟨0, [], fun _ => ⟨rfl, rfl⟩, by decide, fun h => absurd h c⟩
  have hLm : ∃ (nL : Int) (xL : List Int), ZIf f nL xL ∧ xL.length ≤ 1048576 ∧ (f = 0 → ∃ (m : Nat) (L : List Nat), n = (m : Int) ∧ m ≤ 8 ∧ l = ints L ∧ (∀ i, i < L.length → L.getD i 0 < 256) ∧ mo.length = L.length ∧ nL = m ∧ xL = ints (biggest (those m (lamB L mo)))) := by
    by_cases c : f = 0
    · obtain ⟨h1, h2⟩ := hF c
      obtain ⟨m, L, hm, hm8, hL, hL8⟩ := km_nat h1.1 h1.2.1 (fun i hi => ⟨(h1.2.2 i hi).1, (h1.2.2 i hi).2.1⟩)
      exact ⟨m, _, fun h => absurd c h, km_len hm8 (lamB L mo), fun _ => ⟨m, L, hm, hm8, hL, hL8, by rw [h2, hL, ints_len], rfl, rfl⟩⟩
    · exact ⟨0, [], fun _ => ⟨rfl, rfl⟩, by decide, fun h => absurd h c⟩
  obtain ⟨nA, xA, zA, lA, yA⟩ := hT
  obtain ⟨nL, xL, zL, lL, yL⟩ := hLm
  have h256 : isFam n l → ∀ L, l = ints L → ∀ i, i < L.length → L.getD i 0 < 256 := fun h L hL i hi => by
    obtain ⟨m, L2, _, _, hL2, h8⟩ := km_nat h.1 h.2.1 (fun i hi => ⟨(h.2.2 i hi).1, (h.2.2 i hi).2.1⟩)
    obtain rfl : L = L2 := ints_inj (hL.symm.trans hL2)
    exact h8 i hi
  refine law_km u n l mo t a b cap capb e f g nA nL nN ok xA xL xN hi hj hlen he zA zL (fun h => hzN h) (by omega) (by omega) (by omega) hg ?_ ?_ ?_ ?_ ?_ ?_
  · intro B W v h
    refine c_kTrans v n l a cap e nA xA h hlen he zA (fun c => ?_)
    obtain ⟨m, L, h1, h2, h3, h4, h5, h6, h7⟩ := yA c
    refine ⟨m, L, h1, h2, h3, h5, h6, ?_⟩
    rw [h7, those_congr (fun s hs => (hall_same h4 (by have := bit_le m h2; omega)).symm)]
  · intro c B W v h
    obtain ⟨m, L, rfl, h2, rfl, h4, h5, rfl, rfl⟩ := yA c
    exact c_refTrans v m h2 L h4 h5 a cap h
  · intro B W v h h'
    exact c_kLam v n l mo a b cap capb f nL xL h h' hlen hlen2 hcap hf zL yL h256
  · intro B W v h h'
    exact c_refLam v n l mo a b cap capb f nL xL h h' hlen hlen2 hcap hf zL yL h256
  · intro B W v
    exact c_kNamed v t g nN xN hN
  · intro B W v
    exact c_refNamed v t ok nN xN hR

end Go.Proofs.Ytdieaijgoidocaa

namespace Go.Proofs.Ytdieaijgoidocaa
open Go.ChangeShapes Go.WideShapes Go.ChangeAt Go.RowKit Go.Deep Go.Joins
set_option linter.unusedVariables false

theorem prog_own : ownKnob Try.prog.godebug = none := by kernel_rfl
theorem prog_laid : laidOutB Try.prog = true := by kernel_rfl
theorem prog_int8 : Try.prog.bytesOf 3 = 8 := by kernel_rfl

theorem weighs {H : Type} {P : Program} {ts : List TypeId} {ds : List (DataW H)} (h : (DataW.weightsEach P ts ds).all (· ≤ reachBytes) = true) {j : Nat} {t : TypeId} {d : DataW H} (ht : ts[j]? = some t) (hd : ds[j]? = some d) : ∀ n ∈ d.weights P t, n ≤ reachBytes := fun n hn => by
  simpa using List.all_eq_true.1 h _ (DataW.weights_mem_each ht hd n hn)

section
variable {H : Type} {enc : TypeId × Value → H} {W : World}

theorem cells_ints {fuel : Nat} {cs : List Value} {x : DataW H × List MemPlace} (h : DataW.trod enc Try.prog W 0 (fun _ => true) true fuel 22 cs = some x) (hw : ∀ n ∈ x.1.weights Try.prog 22, n ≤ reachBytes) :
    ∃ (xs : List Int) (ad : Option Addr) (cap : Nat), cs = [.slice ad xs.length cap] ∧ IntsAt W.heap.size W ad xs ∧ xs.length ≤ 17592186044416 ∧ (ad = none → cap = 0) ∧ xs.length ≤ cap := by
  have hlt := DataW.trod_lt fuel _ _ _ h
  rcases open_ints Try.underlying22 Try.underlying3 (by kernel_rfl) h with ⟨rfl, rfl⟩ | ⟨a, l, c, zs, rfl, _, hl, hm, hz, rfl, hcell, hwz⟩
  · exact ⟨[], none, 0, rfl, IntsAt.nil, by simp, fun _ => rfl, Nat.le_refl _⟩
  · simp only [if_true] at hz
    have hreach := hw ((lits IntKind.i64 (zs.take l)).length * 8 + (lits IntKind.i64 (zs.drop l)).length * 8) (by
      simp only [DataW.weights, Try.underlying22, prog_int8]
      rw [← Nat.add_mul]
      exact List.mem_cons_self)
    simp only [lits, List.length_map, List.length_take, List.length_drop, reachBytes] at hreach
    have hlen : (zs.take l).length = l := by simp; omega
    refine ⟨zs.take l, some a, c, by rw [hlen], IntsAt.of_cells (ps := []) (by simpa using hlt) hz hcell, by rw [hlen]; omega, (fun h => by cases h), by rw [hlen]; exact hl⟩


set_option maxRecDepth 100000 in
/-- an argument: a list of numbers -/
theorem arg_ints {base : Nat} {v : Value} {d : DataW H} {ps : List MemPlace} (hv : Value.okWide Try.prog W .any base 22 v) (h : DataW.Trod enc Try.prog W 0 (fun _ => true) true 22 v d ps) (hw : ∀ n ∈ d.weights Try.prog 22, n ≤ reachBytes) :
    ∃ (xs : List Int) (ad : Option Addr) (cap : Nat), v = .slice ad xs.length cap ∧ IntsAt W.heap.size W ad xs ∧ xs.length ≤ 17592186044416 ∧ xs.length ≤ cap := by
  obtain ⟨a1, len1, cap1, rfl⟩ := okWide_slice Try.underlying22 hv
  obtain ⟨fuel, hf⟩ := h
  obtain ⟨xs, ad, cap, e, h1, h2, _, h3⟩ := cells_ints hf hw
  simp only [Value.cells, List.cons.injEq, and_true] at e
  exact ⟨xs, ad, cap, e, h1, h2, h3⟩



set_option maxRecDepth 100000 in
/-- an argument: a matroid -/
theorem arg_matroid {base : Nat} {v : Value} {d : DataW H} {ps : List MemPlace} (hv : Value.okWide Try.prog W .any base 26 v) (h : DataW.Trod enc Try.prog W 0 (fun _ => true) true 26 v d ps) (hw : ∀ n ∈ d.weights Try.prog 26, n ≤ reachBytes) :
    ∃ (n : Int) (xs : List Int) (ad : Option Addr) (cap : Nat), v = .agg #[.int .i64 n, .slice ad xs.length cap] ∧ IntsAt W.heap.size W ad xs ∧ xs.length ≤ 17592186044416 := by
  obtain ⟨v0, v1, y0, y1, n, rfl, rfl, rfl, h0, h1⟩ := open_agg2 Try.underlying26 (by kernel_rfl) (by kernel_rfl) hv h
  obtain ⟨z0, e0, _, _⟩ := DataW.trod_int Try.underlying3 h0
  obtain ⟨xs, ad, cap, e1, h2, h3, _⟩ := cells_ints h1 (fun m hm => hw m (by
    simp only [DataW.weights, Try.underlying26, DataW.weightsEach, List.map_cons, List.map_nil, List.mem_append]
    exact .inr (.inl hm)))
  simp only [List.cons.injEq, and_true] at e0 e1
  exact ⟨z0, xs, ad, cap, by rw [e0, e1], h2, h3⟩

end
/-- a whole number that is well formed is below 2^63 -/
theorem wf_lt {a : Int} (h : (Lit.int .i64 a).wf = true) : a < 9223372036854775808 := by
  simp only [Lit.wf, Bool.and_eq_true, decide_eq_true_eq] at h
  have hm : IntKind.i64.max = 9223372036854775807 := by decide
  omega

end Go.Proofs.Ytdieaijgoidocaa
