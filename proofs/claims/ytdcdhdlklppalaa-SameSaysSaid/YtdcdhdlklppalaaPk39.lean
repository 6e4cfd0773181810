
/-
  rotalaw.SameSays returns true, whatever it is handed.
  What is handed in, opened: a list of numbers, a graph, a matroid. Nothing of the program is proved here.
-/
import Derived.Test.YtdcdhdlklppalaaPk49
import Derived.Test.YtdcdhdlklppalaaPk38
import Derived.Test.YtdcdhdlklppalaaPk36
import Derived.Test.YtdcdhdlklppalaaPk28
import Derived.Test.YtdcdhdlklppalaaPk02
import Derived.SizedLaws
import Derived.Carry
namespace Go.Proofs.Ytdcdhdlklppalaa
open Go.RowKit
set_option linter.unusedVariables false

theorem iso_ints {n1 n2 : Nat} {L1 L2 : List Nat} : isoF n1 n2 (ints L1) (ints L2) = isoFN n1 n2 L1 L2 := by
  unfold isoF isoFN
  rw [ints_len, ints_len, toN_ints_eq, toN_ints_eq]
theorem ordF_ords {n r1 : Nat} {L : List Nat} (h : MatL n L r1) : ordF true n n L L = ords n L L := by
  unfold ordF cutF
  rw [if_pos ⟨rfl, rfl⟩, ords_same h h rfl]
  rfl
theorem ren_pred {m : Nat} {p : List Int} {L : List Nat} (hlen : L.length ≤ 256) : ((rnmX m p L).length ≤ 4611686018427387904) := by
  unfold rnmX
  split
  · rw [ren_len]; omega
  · exact Nat.zero_le _

set_option maxRecDepth 100000 in
set_option maxHeartbeats 4000000 in
theorem law_ss_yes {B : Nat} {W : World} (u : Later B W) (n r : Nat) (n2 : Int) (L : List Nat) (l2 p : List Int) (a b c : Option Addr) (cap capb capc : Nat) (e2 : Int) (h1 : IntsAt B W a (ints L)) (h2 : IntsAt B W b l2) (h3 : IntsAt B W c p) (hlen : L.length ≤ 256) (hlen2 : l2.length ≤ 4611686018427387904) (hlen3 : p.length ≤ 4611686018427387904) (hcap : p.length ≤ capc) (hL : MatL n L r) (he2 : MatIs n2 l2 e2) :
    Calls Try.prog 3 #[.agg #[.int .i64 n, .slice a L.length cap], .agg #[.int .i64 n2, .slice b l2.length capb], .slice c p.length capc] u.val (Ret B W (.bool true)) := by
  have hn := hL.n8
  have hM := hL.is
  have hil : (ints L).length = L.length := ints_len L
  have hton : toN (ints L) = L := toN_ints_eq L
  have ha : a = none → cap = 0 := fun e => by
    obtain ⟨_, _, e2, _⟩ := h1 (fun c => hL.ne (by cases L with | nil => rfl | cons x t => cases c))
    rw [e] at e2; cases e2
  have T1 : ∀ w, Bel u.val w → IntsAt w.heap.size w a (ints L) := fun w h => by obtain ⟨v, rfl⟩ := h.later; exact (h1.to u).to v
  have T2 : ∀ w, Bel u.val w → IntsAt w.heap.size w b l2 := fun w h => by obtain ⟨v, rfl⟩ := h.later; exact (h2.to u).to v
  have T3 : ∀ w, Bel u.val w → IntsAt w.heap.size w c p := fun w h => by obtain ⟨v, rfl⟩ := h.later; exact (h3.to u).to v
  -- the answer of Isomorphic
  obtain ⟨xs, f, ok, k1, k2, k3, k4, k5, k6⟩ : ∃ (xs : List Int) (f : Int) (ok : Bool), (e2 ≠ 0 → f = e2) ∧ (e2 = 0 → f = errno ok 5) ∧ (f ≠ 0 → xs = []) ∧ xs.length ≤ 4611686018427387904 ∧
      (e2 = 0 → ∀ w, Bel u.val w → Calls Try.prog 10 #[.agg #[.int .i64 n, .slice a L.length cap], .agg #[.int .i64 n2, .slice b l2.length capb]] w (RetP w.heap.size w (fun v w' => ∃ x, v = .tuple #[x, .bool ok] ∧ RdL xs x w'))) ∧
      (∀ w, Bel u.val w → Calls Try.prog 12 #[.agg #[.int .i64 n, .slice a L.length cap], .agg #[.int .i64 n2, .slice b l2.length capb]] w (RetP w.heap.size w (fun v w' => ∃ x, v = .tuple #[x, .int .i64 f] ∧ RdL xs x w'))) := by
    by_cases c2 : e2 = 0
    case neg =>
      refine ⟨[], e2, false, fun _ => rfl, fun h => absurd h c2, fun _ => rfl, Nat.zero_le _, fun h => absurd h c2, fun w hw => ?_⟩
      have h5 := c_sameIso_no (Later.self w) n n2 (ints L) l2 a b cap capb (T1 w hw) (T2 w hw) (by omega) hlen2 0 e2 e2 hM he2 (.inr ⟨rfl, c2, rfl⟩)
      rw [hil] at h5
      exact h5.mono fun _ _ ⟨h6, v, h7⟩ => ⟨_, h6, ⟨_, rfl, none, 0, rfl, IntsAt.nil⟩, v, h7⟩
    subst c2
    obtain ⟨q, rfl⟩ := Int.eq_ofNat_of_zero_le he2.ok.1.1.1
    obtain ⟨m2, e2', k2'⟩ := MatIs.matL he2
    obtain ⟨K, hK⟩ : ∃ K, K = toN l2 := ⟨_, rfl⟩
    rw [← hK] at m2 e2' k2'
    subst e2'
    have hkl : (ints K).length = K.length := ints_len K
    have P1 : ∀ w, Bel u.val w → Calls Try.prog 12 #[.agg #[.int .i64 n, .slice a L.length cap], .agg #[.int .i64 q, .slice b (ints K).length capb]] w (RetP w.heap.size w (IsoAns (isoFN n q L K))) := fun w hw => by
      have h5 := c_sameIso (Later.self w) n q (ints L) (ints K) a b cap capb (T1 w hw) (T2 w hw) (by omega) hlen2 hM he2
      rw [hil, iso_ints] at h5
      exact h5
    have R1 : ∀ w, Bel u.val w → Calls Try.prog 10 #[.agg #[.int .i64 n, .slice a L.length cap], .agg #[.int .i64 q, .slice b (ints K).length capb]] w (RetP w.heap.size w (IsoRef (isoFN n q L K))) := fun w hw => by
      have h5 := c_refIso (Later.self w) n q hn m2.n8 L K a b cap capb (T1 w hw) (T2 w hw) hlen k2' hL.ne m2.ne hL.lt m2.lt
      rw [iso_same hL m2] at h5
      rw [hkl]
      exact h5
    cases hr : isoFN n q L K with
    | none =>
      rw [hr] at P1 R1
      refine ⟨[], 5, false, fun h => absurd rfl h, fun _ => rfl, fun _ => rfl, Nat.zero_le _, fun _ w hw => (R1 w hw).mono ?_, fun w hw => (P1 w hw).mono ?_⟩
      · rintro e w' ⟨v, rfl, hv, hu⟩
        rcases hv with ⟨_, rfl⟩ | ⟨q', ad, cp, h6, _⟩
        · exact ⟨_, rfl, ⟨_, rfl, none, 0, rfl, IntsAt.nil⟩, hu⟩
        · cases h6
      · rintro e w' ⟨v, rfl, hv, hu⟩
        rcases hv with ⟨_, rfl⟩ | ⟨q', ad, cp, h6, _⟩
        · exact ⟨_, rfl, ⟨_, rfl, none, 0, rfl, IntsAt.nil⟩, hu⟩
        · cases h6
    | some qq =>
      rw [hr] at P1 R1
      have hql : qq.length = n := by
        unfold isoFN at hr
        split at hr
        · exact (mem_ords.1 (List.mem_of_mem_head? hr)).1.len
        · cases hr
      refine ⟨ints qq, 0, true, fun h => absurd rfl h, fun _ => rfl, fun h => absurd rfl h, by rw [ints_len]; omega, fun _ w hw => (R1 w hw).mono ?_, fun w hw => (P1 w hw).mono ?_⟩
      · rintro e w' ⟨v, rfl, hv, hu⟩
        rcases hv with ⟨h6, _⟩ | ⟨q', ad, cp, h6, rfl, hR⟩
        · cases h6
        · cases h6
          obtain ⟨ad2, cp2, h8, h9, _⟩ := hR
          exact ⟨_, rfl, ⟨_, rfl, ad2, cp2, h8, h9⟩, hu⟩
      · rintro e w' ⟨v, rfl, hv, hu⟩
        rcases hv with ⟨h6, _⟩ | ⟨q', ad, cp, h6, rfl, hR⟩
        · cases h6
        · cases h6
          obtain ⟨ad2, cp2, h8, h9, _⟩ := hR
          exact ⟨_, rfl, ⟨_, rfl, ad2, cp2, h8, h9⟩, hu⟩
  have hOr := ordF_ords hL
  have hylen : (ints (those n (fun s => decide (s ∈ orbL n (ords n L L))))).length ≤ 256 := by
    rw [ints_len]
    have e : those n (fun s => decide (s ∈ orbL n (ords n L L))) = thoseTo (fun s => decide (s ∈ orbL n (ords n L L))) (bit n) := rfl
    have := thoseTo_len (fun s => decide (s ∈ orbL n (ords n L L))) (bit n)
    have := bit_le n hn
    rw [e]; omega
  rw [← hil]
  refine law_ss u n n2 (ints L) l2 p a b c cap capb capc e2 f (rnmE n p) (cntN (ords n L L).length) (rnmN n p) (decide (isOrd n p)) ok xs (ints (those n (fun s => decide (s ∈ orbL n (ords n L L))))) (rnmX n p L) (CanAns n L)
    ?_ k1 k2 ?_ ?_ k3 (fun _ _ => CanAns.uniq) (fun X hX => by have := hX.1; omega) k4 (by omega) (ren_pred hlen) ?_ ?_ ?_ ?_ ?_ ?_ ?_ ?_ ?_ ?_ ?_ ?_
  · unfold rnmE errno
    by_cases h : isOrd n p
    · rw [if_pos h, decide_eq_true h, if_pos rfl]
    · rw [if_neg h, decide_eq_false h]; rfl
  · intro h
    have h' : ¬ isOrd n p := fun h4 => h (by unfold rnmE; rw [if_pos h4])
    exact ⟨if_neg h', if_neg h'⟩
  · intro h
    have h' : isOrd n p := by
      by_cases h4 : isOrd n p
      · exact h4
      · unfold rnmE at h; rw [if_neg h4] at h; cases h
    exact if_pos h'
  · exact fun w hw => c_refMatroid (Later.self w) n (ints L) a cap 0 (T1 w hw) (by omega) hM
  · exact fun w hw => c_refMatroid (Later.self w) n2 l2 b capb e2 (T2 w hw) hlen2 he2
  · exact fun w hw => c_isOrder (Later.self w) n hn p c capc (T3 w hw) hlen3
  · intro w hw
    have h5 := c_refGroup (Later.self w) n hn L a cap (T1 w hw) hlen hL.ne hL.lt
    rw [hOr] at h5
    rw [hil]
    exact h5.mono fun _ _ ⟨v, h6, ⟨ad, cp, h7, h8⟩, hu⟩ => ⟨v, h6, ⟨_, h7, ad, cp, rfl, h8⟩, hu⟩
  · intro w hw
    rw [hil]
    exact c_refCanon (Later.self w) n hn L a cap (T1 w hw) ha hlen hL.lt
  · intro hg w hw
    have h' : isOrd n p := by
      by_cases h4 : isOrd n p
      · exact h4
      · unfold rnmE at hg; rw [if_neg h4] at hg; cases hg
    obtain ⟨O, hO, hOl, hO2, _⟩ := isOrd_open hn h'
    have e1 : rnmN n p = n := if_pos h'
    have e2 : rnmX n p L = ren O L := by
      have : rnmX n p L = ren (toN p) L := if_pos h'
      rw [this, hO, toN_ints_eq]
    have h5 := c_refRenamed (Later.self w) (n : Int) L O (fun x hx => by rw [hOl]; exact hL.lt x hx) (by omega) a c cap capc (T1 w hw) (by have := T3 w hw; rwa [hO] at this) (fun i hi => by have := hO2 i (by omega); omega) (by omega)
    rw [e1, e2, hil, show p.length = O.length by rw [hO, ints_len]]
    exact h5
  · intro hg w hw
    rw [hil]
    exact k5 hg w hw
  · intro w hw
    rw [hil]
    exact c_sameRename (Later.self w) n hn L hL.lt (by omega) a c cap capc (T1 w hw) hM p (T3 w hw) hlen3 hcap
  · intro w hw
    rw [hil]
    exact k6 w hw
  · intro w hw
    have h5 := c_sameGroup (Later.self w) n hn (ints L) a cap (T1 w hw) (by omega) hM
    rw [hton] at h5
    exact h5
  · intro w hw
    have h5 := c_sameOrbits (Later.self w) n hn (ints L) a cap (T1 w hw) (by omega) hM
    rw [hton] at h5
    exact h5.mono fun _ _ ⟨v, h6, ⟨x, h7, ad, cp, h8, h9, _⟩, hu⟩ => ⟨v, h6, ⟨x, h7, ad, cp, h8, h9⟩, hu⟩
  · intro w hw
    rw [hil]
    exact c_sameCanon (Later.self w) n hn L a cap (T1 w hw) hM hlen hL.lt

theorem law_sameSays {B : Nat} {W : World} (u : Later B W) (n1 n2 : Int) (l1 l2 p : List Int) (a b c : Option Addr) (cap capb capc : Nat) (h1 : IntsAt B W a l1) (h2 : IntsAt B W b l2) (h3 : IntsAt B W c p) (hlen1 : l1.length ≤ 4611686018427387904) (hlen2 : l2.length ≤ 4611686018427387904) (hlen3 : p.length ≤ 4611686018427387904) (hcap : p.length ≤ capc) :
    Calls Try.prog 3 #[.agg #[.int .i64 n1, .slice a l1.length cap], .agg #[.int .i64 n2, .slice b l2.length capb], .slice c p.length capc] u.val (Ret B W (.bool true)) := by
  obtain ⟨e1, he1⟩ := MatIs.ex n1 l1
  obtain ⟨e2, he2⟩ := MatIs.ex n2 l2
  by_cases c1 : e1 = 0
  case neg => exact law_ss_no u n1 n2 l1 l2 p a b c cap capb capc e1 e2 h1 h2 hlen1 hlen2 he1 he2 c1
  subst c1
  obtain ⟨n, rfl⟩ := Int.eq_ofNat_of_zero_le he1.ok.1.1.1
  obtain ⟨m1, e3, k1⟩ := MatIs.matL he1
  have f1 : l1.length = (toN l1).length := by rw [← ints_len (toN l1), e3]
  rw [f1]
  exact law_ss_yes u n _ n2 (toN l1) l2 p a b c cap capb capc e2 (by rw [e3]; exact h1) h2 h3 k1 hlen2 hlen3 hcap m1 he2
end Go.Proofs.Ytdcdhdlklppalaa

namespace Go.Proofs.Ytdcdhdlklppalaa
open Go.ChangeShapes Go.WideShapes Go.ChangeAt Go.RowKit Go.Deep Go.Joins
set_option linter.unusedVariables false

theorem prog_own : ownKnob Try.prog.godebug = none := by kernel_rfl
theorem prog_laid : laidOutB Try.prog = true := by kernel_rfl
theorem prog_int8 : Try.prog.bytesOf 3 = 8 := by kernel_rfl

theorem weighs {H : Type} {P : Program} {ts : List TypeId} {ds : List (DataW H)} (h : (DataW.weightsEach P ts ds).all (· ≤ reachBytes) = true) {j : Nat} {t : TypeId} {d : DataW H} (ht : ts[j]? = some t) (hd : ds[j]? = some d) : ∀ n ∈ d.weights P t, n ≤ reachBytes := fun n hn => by
  simpa using List.all_eq_true.1 h _ (DataW.weights_mem_each ht hd n hn)

section
variable {H : Type} {enc : TypeId × Value → H} {W : World}

theorem cells_ints {fuel : Nat} {cs : List Value} {x : DataW H × List MemPlace} (h : DataW.trod enc Try.prog W 0 (fun _ => true) true fuel 22 cs = some x) (hw : ∀ n ∈ x.1.weights Try.prog 22, n ≤ reachBytes) :
    ∃ (xs : List Int) (ad : Option Addr) (cap : Nat), cs = [.slice ad xs.length cap] ∧ IntsAt W.heap.size W ad xs ∧ xs.length ≤ 17592186044416 ∧ (ad = none → cap = 0) ∧ xs.length ≤ cap := by
  have hlt := DataW.trod_lt fuel _ _ _ h
  rcases open_ints Try.underlying22 Try.underlying3 (by kernel_rfl) h with ⟨rfl, rfl⟩ | ⟨a, l, c, zs, rfl, _, hl, hm, hz, rfl, hcell, hwz⟩
  · exact ⟨[], none, 0, rfl, IntsAt.nil, by simp, fun _ => rfl, Nat.le_refl _⟩
  · simp only [if_true] at hz
    have hreach := hw ((lits IntKind.i64 (zs.take l)).length * 8 + (lits IntKind.i64 (zs.drop l)).length * 8) (by
      simp only [DataW.weights, Try.underlying22, prog_int8]
      rw [← Nat.add_mul]
      exact List.mem_cons_self)
    simp only [lits, List.length_map, List.length_take, List.length_drop, reachBytes] at hreach
    have hlen : (zs.take l).length = l := by simp; omega
    refine ⟨zs.take l, some a, c, by rw [hlen], IntsAt.of_cells (ps := []) (by simpa using hlt) hz hcell, by rw [hlen]; omega, (fun h => by cases h), by rw [hlen]; exact hl⟩


set_option maxRecDepth 100000 in
/-- an argument: a list of numbers -/
theorem arg_ints {base : Nat} {v : Value} {d : DataW H} {ps : List MemPlace} (hv : Value.okWide Try.prog W .any base 22 v) (h : DataW.Trod enc Try.prog W 0 (fun _ => true) true 22 v d ps) (hw : ∀ n ∈ d.weights Try.prog 22, n ≤ reachBytes) :
    ∃ (xs : List Int) (ad : Option Addr) (cap : Nat), v = .slice ad xs.length cap ∧ IntsAt W.heap.size W ad xs ∧ xs.length ≤ 17592186044416 ∧ xs.length ≤ cap := by
  obtain ⟨a1, len1, cap1, rfl⟩ := okWide_slice Try.underlying22 hv
  obtain ⟨fuel, hf⟩ := h
  obtain ⟨xs, ad, cap, e, h1, h2, _, h3⟩ := cells_ints hf hw
  simp only [Value.cells, List.cons.injEq, and_true] at e
  exact ⟨xs, ad, cap, e, h1, h2, h3⟩

set_option maxRecDepth 100000 in
/-- an argument, with what nil is: a list of numbers -/
theorem arg_intsN {base : Nat} {v : Value} {d : DataW H} {ps : List MemPlace} (hv : Value.okWide Try.prog W .any base 22 v) (h : DataW.Trod enc Try.prog W 0 (fun _ => true) true 22 v d ps) (hw : ∀ n ∈ d.weights Try.prog 22, n ≤ reachBytes) :
    ∃ (xs : List Int) (ad : Option Addr) (cap : Nat), v = .slice ad xs.length cap ∧ IntsAt W.heap.size W ad xs ∧ xs.length ≤ 17592186044416 ∧ xs.length ≤ cap ∧ (ad = none → cap = 0) := by
  obtain ⟨a1, len1, cap1, rfl⟩ := okWide_slice Try.underlying22 hv
  obtain ⟨fuel, hf⟩ := h
  obtain ⟨xs, ad, cap, e, h1, h2, h4, h3⟩ := cells_ints hf hw
  simp only [Value.cells, List.cons.injEq, and_true] at e
  exact ⟨xs, ad, cap, e, h1, h2, h3, h4⟩



set_option maxRecDepth 100000 in
/-- an argument: a matroid -/
theorem arg_matroid {base : Nat} {v : Value} {d : DataW H} {ps : List MemPlace} (hv : Value.okWide Try.prog W .any base 24 v) (h : DataW.Trod enc Try.prog W 0 (fun _ => true) true 24 v d ps) (hw : ∀ n ∈ d.weights Try.prog 24, n ≤ reachBytes) :
    ∃ (n : Int) (xs : List Int) (ad : Option Addr) (cap : Nat), v = .agg #[.int .i64 n, .slice ad xs.length cap] ∧ IntsAt W.heap.size W ad xs ∧ xs.length ≤ 17592186044416 := by
  obtain ⟨v0, v1, y0, y1, n, rfl, rfl, rfl, h0, h1⟩ := open_agg2 Try.underlying24 (by kernel_rfl) (by kernel_rfl) hv h
  obtain ⟨z0, e0, _, _⟩ := DataW.trod_int Try.underlying3 h0
  obtain ⟨xs, ad, cap, e1, h2, h3, _⟩ := cells_ints h1 (fun m hm => hw m (by
    simp only [DataW.weights, Try.underlying24, DataW.weightsEach, List.map_cons, List.map_nil, List.mem_append]
    exact .inr (.inl hm)))
  simp only [List.cons.injEq, and_true] at e0 e1
  exact ⟨z0, xs, ad, cap, by rw [e0, e1], h2, h3⟩

end
/-- a whole number that is well formed is below 2^63 -/
theorem wf_lt {a : Int} (h : (Lit.int .i64 a).wf = true) : a < 9223372036854775808 := by
  simp only [Lit.wf, Bool.and_eq_true, decide_eq_true_eq] at h
  have hm : IntKind.i64.max = 9223372036854775807 := by decide
  omega

end Go.Proofs.Ytdcdhdlklppalaa
