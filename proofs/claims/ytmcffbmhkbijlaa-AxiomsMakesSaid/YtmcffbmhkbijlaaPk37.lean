
/-
  rotalaw.AxiomsMakes returns true, whatever it is handed.
  What is handed in, opened: a list of numbers, a graph, a matroid. Nothing of the program is proved here.
-/
import Derived.Test.YtmcffbmhkbijlaaPk42
import Derived.Test.YtmcffbmhkbijlaaPk44
import Derived.Test.YtmcffbmhkbijlaaPk46
import Derived.Test.YtmcffbmhkbijlaaPk47
import Derived.Test.YtmcffbmhkbijlaaPk45
import Derived.Test.YtmcffbmhkbijlaaPk02
import Derived.SizedLaws
import Derived.Carry
namespace Go.Proofs.Ytmcffbmhkbijlaa
open Go.RowKit
set_option linter.unusedVariables false

theorem mxT_congr {g h : Nat → Nat} : ∀ k, (∀ i, i < k → g i = h i) → mxT g k = mxT h k := by
  intro k
  induction k with
  | zero => intro _; rfl
  | succ k ih =>
    intro H
    show max (mxT g k) (g k) = max (mxT h k) (h k)
    rw [ih (fun i hi => H i (by omega)), H k (by omega)]
/-- heights, row by row -/
def htN (l : List Nat) : Nat → Nat → Nat
  | 0 => fun _ => 0
  | k + 1 => fun t => if t = k then mxT (fun j => if l.getD j 0 ||| l.getD k 0 = l.getD k 0 then htN l k j + 1 else 0) k else htN l k t
theorem htN_is (l : List Nat) : ∀ k i, i < k → htN l k i = mxT (fun j => if l.getD j 0 ||| l.getD i 0 = l.getD i 0 then htN l k j + 1 else 0) i := by
  intro k
  induction k with
  | zero => intro i hi; omega
  | succ k ih =>
    intro i hi
    have hs : ∀ t, htN l (k + 1) t = if t = k then mxT (fun j => if l.getD j 0 ||| l.getD k 0 = l.getD k 0 then htN l k j + 1 else 0) k else htN l k t := fun t => rfl
    by_cases e : i = k
    · subst e
      rw [hs i, if_pos rfl]
      refine mxT_congr _ (fun j hj => ?_)
      have h2 := hs j
      rw [if_neg (by omega)] at h2
      show (if _ then htN l _ j + 1 else 0) = (if _ then htN l _ j + 1 else 0)
      rw [h2]
    · rw [hs i, if_neg e, ih i (by omega)]
      refine mxT_congr _ (fun j hj => ?_)
      have h2 := hs j
      rw [if_neg (by omega)] at h2
      show (if _ then htN l _ j + 1 else 0) = (if _ then htN l _ j + 1 else 0)
      rw [h2]
theorem HtIs.ex (l : List Nat) : ∃ A, HtIs l A := ⟨htN l l.length, fun i hi => htN_is l l.length i hi⟩
theorem big_len {m : Nat} (hm : m ≤ 8) (P : Nat → Bool) : (big m P).length ≤ 256 := by
  rw [big_those]
  have h1 := thoseTo_len (fun s => P s && decide (sz s = bigR m P)) (bit m)
  have h2 := bit_le m hm
  have h3 : those m (fun s => P s && decide (sz s = bigR m P)) = thoseTo (fun s => P s && decide (sz s = bigR m P)) (bit m) := rfl
  rw [h3]; omega
theorem spL_len {m : Nat} (hm : m ≤ 8) (l : List Nat) : (spL m l).length ≤ 256 := by
  unfold spL
  have h1 := thoseTo_len (leastB (those m (SP l))) (bit m)
  have h2 := bit_le m hm
  have h3 : those m (leastB (those m (SP l))) = thoseTo (leastB (those m (SP l))) (bit m) := rfl
  rw [h3]; omega
theorem mdX_len {ok : Bool} {A : List Nat} (h : A.length ≤ 256) : (mdX ok A).length ≤ 4611686018427387904 := by
  unfold mdX
  split
  · rw [ints_len]; omega
  · exact Nat.zero_le _
theorem mdE_errno (ok : Bool) : mdE ok = errno ok 3 := by cases ok <;> rfl
instance (n : Int) (l : List Int) : Decidable (rkGood n l) := by unfold rkGood; infer_instance
/-- what the law wants of an answer -/
theorem FmIs.law {n : Int} {l : List Int} {P : Nat → List Nat → Prop} {G : Nat → List Nat → List Nat} {nA : Int} {xA : List Int} {er : Int} {ok : Bool} (h : FmIs n l P G nA xA er ok) (hG : ∀ m L, m ≤ 8 → (G m L).length ≤ 256) :
    (¬ isFam n l → nA = 0 ∧ xA = [] ∧ er = 1) ∧ (isFam n l → er = errno ok 3 ∧ (ok = false → nA = 0 ∧ xA = [])) ∧ xA.length ≤ 4611686018427387904 := by
  by_cases hf : isFam n l
  · obtain ⟨m, L, h1, h2, h3, _⟩ := fam_open hf
    obtain ⟨a1, a2, a3, _⟩ := h.good m L h1 h3 hf
    refine ⟨fun c => absurd hf c, fun _ => ⟨by rw [a3, mdE_errno], fun c => ?_⟩, by rw [a2]; exact mdX_len (hG m L h2)⟩
    subst c
    exact ⟨a1, a2⟩
  · obtain ⟨a1, a2, a3⟩ := h.bad hf
    exact ⟨fun _ => ⟨a1, a2, a3⟩, fun c => absurd c hf, by rw [a2]; exact Nat.zero_le _⟩
theorem RkIs.law {n : Int} {l : List Int} {nA : Int} {xA : List Int} {er : Int} {ok : Bool} (h : RkIs n l nA xA er ok) :
    (¬ rkGood n l → nA = 0 ∧ xA = [] ∧ er = 1) ∧ (rkGood n l → er = errno ok 3 ∧ (ok = false → nA = 0 ∧ xA = [])) ∧ xA.length ≤ 4611686018427387904 := by
  by_cases hf : rkGood n l
  · obtain ⟨m, h1⟩ := Int.eq_ofNat_of_zero_le hf.1
    obtain ⟨a1, a2, a3, _⟩ := h.good m h1 hf
    refine ⟨fun c => absurd hf c, fun _ => ⟨by rw [a3, mdE_errno], fun c => ?_⟩, by rw [a2]; exact mdX_len (big_len (by have := hf.2.1; omega) _)⟩
    subst c
    exact ⟨a1, a2⟩
  · obtain ⟨a1, a2, a3⟩ := h.bad hf
    exact ⟨fun _ => ⟨a1, a2, a3⟩, fun c => absurd c hf, by rw [a2]; exact Nat.zero_le _⟩
theorem rise_own {m : Nat} {L : List Nat} (h1 : ∀ b, b ∈ L → b < bit m) (h2 : L.Pairwise (· < ·)) : L = those m (memB L) :=
  nat_ext h2 (those_pwN m _) (fun x => ⟨fun hx => mem_those.2 ⟨h1 x hx, memB_iff.2 hx⟩, fun hx => memB_iff.1 (mem_those.1 hx).2⟩)

set_option maxRecDepth 100000 in
set_option maxHeartbeats 8000000 in
theorem law_axiomsMakes {B : Nat} {W : World} (u : Later B W) (n : Int) (l r : List Int) (a c : Option Addr) (cap capc : Nat) (h1 : IntsAt B W a l) (h2 : IntsAt B W c r) (hlen : l.length ≤ 4611686018427387904) (hlen2 : r.length ≤ 4611686018427387904) :
    Calls Try.prog 3 #[.int .i64 n, .slice a l.length cap, .slice c r.length capc] u.val (Ret B W (.bool true)) := by
  have T1 : ∀ w, Bel u.val w → IntsAt w.heap.size w a l := fun w h => by obtain ⟨v, rfl⟩ := h.later; exact (h1.to u).to v
  have T2 : ∀ w, Bel u.val w → IntsAt w.heap.size w c r := fun w h => by obtain ⟨v, rfl⟩ := h.later; exact (h2.to u).to v
  obtain ⟨n0, x0, e0, o0, F0⟩ := FmIs.ex n l IndOk (fun m L => big m (memB L))
  obtain ⟨n1, x1, e1, o1, F1⟩ := FmIs.ex n l CircOk (fun m L => big m (PC L))
  obtain ⟨n2, x2, e2, o2, F2⟩ := FmIs.ex n l FlatOk (fun m L => big m (PF m L))
  obtain ⟨n3, x3, e3, o3, F3⟩ := FmIs.ex n l HypOk (fun m L => spL m L)
  obtain ⟨nR, xR, eR, oR, FR⟩ := RkIs.ex n r
  obtain ⟨b0, g0, k0⟩ := F0.law (fun m L hm => big_len hm _)
  obtain ⟨b1, g1, k1⟩ := F1.law (fun m L hm => big_len hm _)
  obtain ⟨b2, g2, k2⟩ := F2.law (fun m L hm => big_len hm _)
  obtain ⟨b3, g3, k3⟩ := F3.law (fun m L hm => spL_len hm _)
  obtain ⟨bR, gR, kR⟩ := FR.law
  refine law_am u n l r a c cap capc (decide (isFam n l)) (decide (rkGood n r)) oR
    (fun k => match k with | 0 => n0 | 1 => n1 | 2 => n2 | _ => n3) (fun k => match k with | 0 => x0 | 1 => x1 | 2 => x2 | _ => x3)
    (fun k => match k with | 0 => e0 | 1 => e1 | 2 => e2 | _ => e3) (fun k => match k with | 0 => o0 | 1 => o1 | 2 => o2 | _ => o3) nR eR xR
    (fun c k => ?_) (fun c k => ?_) (fun k => ?_) kR (fun c => bR (of_decide_eq_false c)) (fun c => gR (of_decide_eq_true c)) ⟨fun c => of_decide_eq_true c, fun c => decide_eq_true c⟩
    (fun w hw => c_isFamily (Later.self w) n l a cap (T1 w hw) (by omega))
    (fun w hw => c_ofInd (Later.self w) n l a cap (T1 w hw) hlen n0 x0 e0 o0 F0)
    (fun w hw => c_ofCirc (Later.self w) n l a cap (T1 w hw) hlen n1 x1 e1 o1 F1)
    (fun w hw => c_ofFlats (Later.self w) n l a cap (T1 w hw) hlen n2 x2 e2 o2 F2)
    (fun w hw => c_ofHyp (Later.self w) n l a cap (T1 w hw) hlen n3 x3 e3 o3 F3)
    (fun w hw => c_ofRanks (Later.self w) n r c capc (T2 w hw) hlen2 nR xR eR oR FR)
    (fun hf w hw => ?_) (fun hf w hw => ?_) (fun hf w hw => ?_) (fun hf w hw => ?_) (fun hf w hw => ?_)
  · have c' := of_decide_eq_false c
    match k with
    | 0 => exact b0 c'
    | 1 => exact b1 c'
    | 2 => exact b2 c'
    | _ + 3 => exact b3 c'
  · have c' := of_decide_eq_true c
    match k with
    | 0 => exact g0 c'
    | 1 => exact g1 c'
    | 2 => exact g2 c'
    | _ + 3 => exact g3 c'
  · match k with
    | 0 => exact k0
    | 1 => exact k1
    | 2 => exact k2
    | _ + 3 => exact k3
  all_goals try (have hf' := of_decide_eq_true hf)
  · obtain ⟨m, L, rfl, q2, rfl, q4, q5, _⟩ := fam_open hf'
    have hl := rise_own q4 q5
    obtain ⟨a1, a2, a3, a4⟩ := F0.good m L rfl rfl hf'
    have h := c_refOfFree (Later.self w) m q2 L hl a cap (T1 w hw) o0 (a4.trans (free_law q2 hl).symm)
    rw [← a1, ← a2, ← ints_len L] at h
    exact h
  · obtain ⟨m, L, rfl, q2, rfl, q4, q5, _⟩ := fam_open hf'
    have hl := rise_own q4 q5
    obtain ⟨a1, a2, a3, a4⟩ := F1.good m L rfl rfl hf'
    have h := c_refOfCircuits (Later.self w) m q2 L hl a cap (T1 w hw) o1 (a4.trans (circ_law q2 hl).symm)
    rw [← a1, ← a2, ← ints_len L] at h
    exact h
  · obtain ⟨m, L, rfl, q2, rfl, q4, q5, _⟩ := fam_open hf'
    have hl := rise_own q4 q5
    obtain ⟨a1, a2, a3, a4⟩ := F2.good m L rfl rfl hf'
    obtain ⟨A, hA⟩ := HtIs.ex L
    have h := c_refOfFlats (Later.self w) m q2 L hl A hA a cap (T1 w hw) o2 (a4.trans (flat_law q2 hl hA).symm)
    have e : mdX o2 (big m (PR (rkA m L A))) = mdX o2 (big m (PF m L)) := by
      cases o2
      · rfl
      · obtain ⟨y1, y2⟩ := (flat_law q2 hl hA).2 (a4.1 rfl)
        rw [flat_same2 q2 hl hA y1 y2]
    rw [e, ← a1, ← a2, ← ints_len L] at h
    exact h
  · obtain ⟨m, L, rfl, q2, rfl, q4, q5, _⟩ := fam_open hf'
    have hl := rise_own q4 q5
    obtain ⟨a1, a2, a3, a4⟩ := F3.good m L rfl rfl hf'
    have h := c_refOfHyperplanes (Later.self w) m q2 L hl a cap (T1 w hw) o3 (a4.trans (hyper_law q2 hl).symm)
    rw [← a1, ← a2, ← ints_len L] at h
    exact h
  · obtain ⟨m, rfl⟩ := Int.eq_ofNat_of_zero_le hf'.1
    have hm8 : m ≤ 8 := by have := hf'.2.1; omega
    obtain ⟨a1, a2, a3, a4⟩ := FR.good m rfl hf'
    have h := c_refOfRanks (Later.self w) m hm8 r hf'.2.2 c capc (T2 w hw) oR (a4.trans (rank_law hm8).symm)
    rw [← a1, ← a2] at h
    exact h
end Go.Proofs.Ytmcffbmhkbijlaa

namespace Go.Proofs.Ytmcffbmhkbijlaa
open Go.ChangeShapes Go.WideShapes Go.ChangeAt Go.RowKit Go.Deep Go.Joins
set_option linter.unusedVariables false

theorem prog_own : ownKnob Try.prog.godebug = none := by kernel_rfl
theorem prog_laid : laidOutB Try.prog = true := by kernel_rfl
theorem prog_int8 : Try.prog.bytesOf 3 = 8 := by kernel_rfl

theorem weighs {H : Type} {P : Program} {ts : List TypeId} {ds : List (DataW H)} (h : (DataW.weightsEach P ts ds).all (· ≤ reachBytes) = true) {j : Nat} {t : TypeId} {d : DataW H} (ht : ts[j]? = some t) (hd : ds[j]? = some d) : ∀ n ∈ d.weights P t, n ≤ reachBytes := fun n hn => by
  simpa using List.all_eq_true.1 h _ (DataW.weights_mem_each ht hd n hn)

section
variable {H : Type} {enc : TypeId × Value → H} {W : World}

theorem cells_ints {fuel : Nat} {cs : List Value} {x : DataW H × List MemPlace} (h : DataW.trod enc Try.prog W 0 (fun _ => true) true fuel 22 cs = some x) (hw : ∀ n ∈ x.1.weights Try.prog 22, n ≤ reachBytes) :
    ∃ (xs : List Int) (ad : Option Addr) (cap : Nat), cs = [.slice ad xs.length cap] ∧ IntsAt W.heap.size W ad xs ∧ xs.length ≤ 17592186044416 ∧ (ad = none → cap = 0) ∧ xs.length ≤ cap := by
  have hlt := DataW.trod_lt fuel _ _ _ h
  rcases open_ints Try.underlying22 Try.underlying3 (by kernel_rfl) h with ⟨rfl, rfl⟩ | ⟨a, l, c, zs, rfl, _, hl, hm, hz, rfl, hcell, hwz⟩
  · exact ⟨[], none, 0, rfl, IntsAt.nil, by simp, fun _ => rfl, Nat.le_refl _⟩
  · simp only [if_true] at hz
    have hreach := hw ((lits IntKind.i64 (zs.take l)).length * 8 + (lits IntKind.i64 (zs.drop l)).length * 8) (by
      simp only [DataW.weights, Try.underlying22, prog_int8]
      rw [← Nat.add_mul]
      exact List.mem_cons_self)
    simp only [lits, List.length_map, List.length_take, List.length_drop, reachBytes] at hreach
    have hlen : (zs.take l).length = l := by simp; omega
    refine ⟨zs.take l, some a, c, by rw [hlen], IntsAt.of_cells (ps := []) (by simpa using hlt) hz hcell, by rw [hlen]; omega, (fun h => by cases h), by rw [hlen]; exact hl⟩


set_option maxRecDepth 100000 in
/-- an argument: a list of numbers -/
theorem arg_ints {base : Nat} {v : Value} {d : DataW H} {ps : List MemPlace} (hv : Value.okWide Try.prog W .any base 22 v) (h : DataW.Trod enc Try.prog W 0 (fun _ => true) true 22 v d ps) (hw : ∀ n ∈ d.weights Try.prog 22, n ≤ reachBytes) :
    ∃ (xs : List Int) (ad : Option Addr) (cap : Nat), v = .slice ad xs.length cap ∧ IntsAt W.heap.size W ad xs ∧ xs.length ≤ 17592186044416 ∧ xs.length ≤ cap := by
  obtain ⟨a1, len1, cap1, rfl⟩ := okWide_slice Try.underlying22 hv
  obtain ⟨fuel, hf⟩ := h
  obtain ⟨xs, ad, cap, e, h1, h2, _, h3⟩ := cells_ints hf hw
  simp only [Value.cells, List.cons.injEq, and_true] at e
  exact ⟨xs, ad, cap, e, h1, h2, h3⟩

set_option maxRecDepth 100000 in
/-- an argument, with what nil is: a list of numbers -/
theorem arg_intsN {base : Nat} {v : Value} {d : DataW H} {ps : List MemPlace} (hv : Value.okWide Try.prog W .any base 22 v) (h : DataW.Trod enc Try.prog W 0 (fun _ => true) true 22 v d ps) (hw : ∀ n ∈ d.weights Try.prog 22, n ≤ reachBytes) :
    ∃ (xs : List Int) (ad : Option Addr) (cap : Nat), v = .slice ad xs.length cap ∧ IntsAt W.heap.size W ad xs ∧ xs.length ≤ 17592186044416 ∧ xs.length ≤ cap ∧ (ad = none → cap = 0) := by
  obtain ⟨a1, len1, cap1, rfl⟩ := okWide_slice Try.underlying22 hv
  obtain ⟨fuel, hf⟩ := h
  obtain ⟨xs, ad, cap, e, h1, h2, h4, h3⟩ := cells_ints hf hw
  simp only [Value.cells, List.cons.injEq, and_true] at e
  exact ⟨xs, ad, cap, e, h1, h2, h3, h4⟩



set_option maxRecDepth 100000 in
/-- an argument: a matroid -/
theorem arg_matroid {base : Nat} {v : Value} {d : DataW H} {ps : List MemPlace} (hv : Value.okWide Try.prog W .any base 29 v) (h : DataW.Trod enc Try.prog W 0 (fun _ => true) true 29 v d ps) (hw : ∀ n ∈ d.weights Try.prog 29, n ≤ reachBytes) :
    ∃ (n : Int) (xs : List Int) (ad : Option Addr) (cap : Nat), v = .agg #[.int .i64 n, .slice ad xs.length cap] ∧ IntsAt W.heap.size W ad xs ∧ xs.length ≤ 17592186044416 := by
  obtain ⟨v0, v1, y0, y1, n, rfl, rfl, rfl, h0, h1⟩ := open_agg2 Try.underlying29 (by kernel_rfl) (by kernel_rfl) hv h
  obtain ⟨z0, e0, _, _⟩ := DataW.trod_int Try.underlying3 h0
  obtain ⟨xs, ad, cap, e1, h2, h3, _⟩ := cells_ints h1 (fun m hm => hw m (by
    simp only [DataW.weights, Try.underlying29, DataW.weightsEach, List.map_cons, List.map_nil, List.mem_append]
    exact .inr (.inl hm)))
  simp only [List.cons.injEq, and_true] at e0 e1
  exact ⟨z0, xs, ad, cap, by rw [e0, e1], h2, h3⟩

end
/-- a whole number that is well formed is below 2^63 -/
theorem wf_lt {a : Int} (h : (Lit.int .i64 a).wf = true) : a < 9223372036854775808 := by
  simp only [Lit.wf, Bool.and_eq_true, decide_eq_true_eq] at h
  have hm : IntKind.i64.max = 9223372036854775807 := by decide
  omega

end Go.Proofs.Ytmcffbmhkbijlaa
