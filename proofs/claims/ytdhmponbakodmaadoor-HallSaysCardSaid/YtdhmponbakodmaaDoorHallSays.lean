
/-
  PROVED HERE: rotalaw.HallSays returns true, whatever it is handed, and each argument reads behind the call as it read before. The one condition: the library's two tables (math/bits) read as the row lists them when the call begins; the card ties that to the program's text.
-/
import Derived.Test.YtdhmponbakodmaaDoorPk23
import Derived.Test.YtdhmponbakodmaaDoorPk24
import Derived.Test.YtdhmponbakodmaaDoorTie
import Derived.Test.YtdhmponbakodmaaDoorCards
import Derived.ProofKit
import Derived.LaidMore
import Derived.OpenShut
import Derived.Stop.Joined
import Derived.SevenTiedAt
import Derived.MakeChecks
namespace Go.Proofs.YtdhmponbakodmaaDoor.hallSays
open Go.ChangeShapes Go.WideShapes Go.ChangeAt Go.RowKit Go.Deep Go.Joins Go.Proofs.YtdhmponbakodmaaDoor
set_option linter.unusedVariables false

theorem gTab : Tryd.prog.globalNamed "math/bits.deBruijn64tab" = some 1 := by kernel_rfl
theorem tTab : (Tryd.prog.globals[1]?).map (·.type) = some 56 := by kernel_rfl
/-- what the row lists -/
abbrev laidL : List (String × DataW Unit) := [("math/bits.deBruijn32tab", Rows.laid_math_bits_deBruijn32tab), ("math/bits.deBruijn64tab", Rows.laid_math_bits_deBruijn64tab)]
theorem laid_list : (Rows.laid_math_bits_deBruijn64tab : DataW Unit) = .agg (dbr.map (fun z => .lit (.int .u8 z))) := rfl

set_option maxRecDepth 100000 in
/-- what is laid, read in the world where the call begins -/
theorem of_laid {W : World} (h : laidMetH Tryd.prog laidL W) : Dbr W.heap.size W := by
  rw [MakeChecks.laidMetH_plain _ _ _ (by kernel_rfl)] at h
  obtain ⟨ps, ⟨g0, t0, cs0, f0, p0, q0, hg0, ht0, hv0, hd0, ⟨g1, t1, cs1, f1, p1, q1, hg1, ht1, hv1, hd1, _, _⟩, _⟩, _, _⟩ := h
  obtain rfl := Option.some.inj (gTab.symm.trans hg1)
  obtain rfl := Option.some.inj (tTab.symm.trans ht1)
  obtain ⟨xs, m1, rfl, hx1, hlen, hn3, hel⟩ := DataW.trod_array Tryd.underlying56 hd1
  have c1 : Tryd.prog.cellsOf 5 = 1 := by kernel_rfl
  have hx : xs.map (·.1) = dbr.map (fun z => .lit (.int .u8 z)) := by
    have := (Prod.mk.inj hx1).1
    rw [laid_list] at this
    exact (DataW.agg.inj this).symm
  have each : ∀ i, i < 64 → W.cell? ⟨1, i, none⟩ = some (.int .u8 (dbr.getD i 0)) := by
    intro i hi
    have h0 := hel i hi
    have hix : i < xs.length := by omega
    rw [List.getElem?_eq_getElem hix, c1] at h0
    obtain ⟨k, e1, e2, _⟩ := DataW.trod_int Tryd.underlying5 h0
    have hd : i < dbr.length := hi
    have e3 : (xs.map (·.1))[i]? = (dbr.map (fun z => (.lit (.int .u8 z) : DataW Unit)))[i]? := by rw [hx]
    rw [List.getElem?_map, List.getElem?_map, List.getElem?_eq_getElem hix, List.getElem?_eq_getElem hd, Option.map_some, Option.map_some, e2] at e3
    have hk : k = dbr[i] := by
      have := DataW.lit.inj (Option.some.inj e3)
      exact (Lit.int.inj this).2
    have := World.var?_cell hg1 hv1 i
    rw [this]
    have e4 : cs1[i]? = cs1.toList[i]? := by simp
    rw [e4]
    have e5 : (cs1.toList.drop (i * 1))[0]? = cs1.toList[i]? := by rw [List.getElem?_drop]; simp
    rw [← e5]
    have e6 : ((cs1.toList.drop (i * 1)).take 1)[0]? = (cs1.toList.drop (i * 1))[0]? := by rw [List.getElem?_take]; simp
    rw [← e6, e1, hk]
    have : dbr.getD i 0 = dbr[i] := by rw [List.getD_eq_getElem?_getD, List.getElem?_eq_getElem hd]; rfl
    rw [this]
    rfl
  refine ⟨?_, each⟩
  have h := each 0 (by omega)
  refine Classical.byContradiction fun c => ?_
  unfold World.cell? at h
  simp [Array.getElem?_eq_none (Nat.le_of_not_lt c)] at h

/-- the door's own heap meets the condition -/
theorem door_met (os : Os) (args : Array Value) : laidMetH Tryd.prog laidL ((World.doorLaid Tryd.prog 400 os).forCall (fun _ _ => 0) ⟨#[], args, []⟩).memory :=
  laidMetH_of_parts3 (fuel := 8) (laidMet_of_run' 8 (by kernel_rfl) (by kernel_rfl)) (by kernel_rfl) (by kernel_rfl)

set_option maxRecDepth 100000 in
set_option maxHeartbeats 1000000 in
theorem lifted (os : Os) (started : os.Started) (H : Type) (enc : TypeId × Value → H) :
    ReturnsInHanded {} Tryd.checked os 3 .any (fun w args => (Rows.hallSaysSpec.pre enc Tryd.prog Tryd.f3 [] false w args ∧ laidMetH Tryd.prog laidL w) ∧ sizedMet enc Tryd.prog Tryd.f3 (OpenSpec.ofChange Rows.hallSaysSpec) false w args)
      (Rows.hallSaysSpec.post enc Tryd.prog Tryd.f3 false true false false) := by
  refine returnsInHanded_of_change_and (C := Tryd.checked) (X := fun w _ => laidMetH Tryd.prog laidL w) (fun _ _ _ hh h => h.of_heap hh) prog_own started (by kernel_rfl) Tryd.func3
    (ChangeSpec.witness_shaped (enc := enc) (C := Tryd.checked) (os := os) (X := fun w _ => laidMetH Tryd.prog laidL w) false (World.doorLaid Tryd.prog 400 os) #[.int .i64 0, .slice none 0 0] 8 rfl (World.shaped_of_RefB (by kernel_rfl) (by kernel_rfl)) (by kernel_rfl) (by kernel_rfl) (by kernel_rfl) (door_met os _)) ?_
  intro W base args ds gs before hval0 hW _ hsz0 hL _
  have hsz : (DataW.weightsEach Tryd.prog (Tryd.f3.params.toList ++ Rows.hallSaysSpec.plain.varTypes Tryd.prog) (ds ++ gs)).all (· ≤ reachBytes) = true := hsz0
  clear hsz0
  have hval : ∀ (j : Nat) t v, Tryd.f3.params[j]? = some t → args[j]? = some v → Value.okWide Tryd.prog W .any base t v := hval0
  have hW' := hW
  obtain ⟨p, q, hA0, hV, rfl, hfz, hnd⟩ := hW
  have hA : DataW.TrodAll enc Tryd.prog W 0 (fun _ => true) true Tryd.f3.params.toList args.toList ds p := hA0
  rw [Tryd.params3] at hA hval hsz
  obtain ⟨v0, vs0, d0, ds0, p0, q0, hargs, rfl, rfl, h0, r0⟩ := trodAll_cons hA
  obtain ⟨v1, vs1, d1, ds1, p1, q1, rfl, rfl, rfl, h1, r1⟩ := trodAll_cons r0
  obtain ⟨rfl, rfl, rfl⟩ := trodAll_nil r1
  obtain rfl : args = #[v0, v1] := by cases args; simp_all
  obtain ⟨rfl, rfl⟩ := trodVars_none hV
  clear hA0 hval0 hargs
  obtain ⟨a0, rfl, rfl, rfl, w0⟩ := open_int Tryd.underlying3 (hval 0 3 v0 rfl rfl) h0
  have k1 := h1
  have lt1 : ∀ x ∈ p1, x.block < W.heap.size := by obtain ⟨m, hm⟩ := k1; exact DataW.trod_lt m _ _ _ hm
  obtain ⟨xs1, ad1, cp1, rfl, wr1, ln1, lc1, nl1⟩ := arg_intsN (hval 1 22 v1 rfl rfl) h1 (weighs hsz (j := 1) rfl rfl)
  refine Calls.mono (law_hallSays (Later.self W) (of_laid hL) a0 xs1 ad1 cp1 wr1 (by omega) lc1 nl1) fun e W' hend => ?_
  obtain ⟨rfl, u', rfl⟩ := hend
  have bel : Below W.heap.size W u'.val := u'.below
  exact ⟨_, rfl, _, _, _, [], _, [], hW', trodAll_mk1 (shut_bool Tryd.underlying4 _), (trodAll_cons_mk (shut_int Tryd.underlying3 w0) (trodAll_cons_mk (Below.trod prog_laid (by kernel_rfl) (of_decide_eq_true (by kernel_rfl)) k1 bel lt1) trodAll_mk0)), rfl, bel.frame _, fun h => by cases h⟩

theorem over : Rows.hallSaysRow.holds Tryd.pinned (OpenSpec.ofChange Rows.hallSaysSpec) :=
  OpenClaim.holds_of_wide 3 Tryd.f3 rfl rfl rfl rfl rfl rfl rfl ⟨rfl, rfl, rfl, rfl, rfl⟩ rfl rfl rfl rfl rfl (by kernel_rfl) Tryd.func3 (by kernel_rfl)
    (of_decide_eq_true (by kernel_rfl)) (by unfold Func.isWrapper; first | (rw [if_pos (by decide +kernel)]; kernel_rfl) | (rw [if_neg (by decide +kernel)]; exact ⟨rfl, rfl⟩))
    (fun os started H enc _ => lifted os started H enc)

/-- THE STATEMENT: the card -/
theorem proved : Rows.HallSaysCardSaid :=
  Claim7.holds_tied_plain_at .later [] [.data, .data] true (true, "f027db8ad3e00e6355bf1670fed99f3d99665ac1c6c9a6f5fda5aaa0e7863254") false
    over (fun _ h => by cases h) (by kernel_rfl) (fun _ h => by cases h) hallSays_row_tie rfl ⟨rfl, rfl⟩ (by kernel_rfl) rfl
    (fun f fn hf hfn => by
      obtain rfl : f = 3 := Option.some.inj ((show Tryd.prog.funcNamed "rota/rotalaw.HallSays" = some 3 by kernel_rfl).symm.trans hf) |>.symm
      obtain rfl : fn = Tryd.f3 := (Option.some.inj (Tryd.func3.symm.trans hfn)).symm
      exact ⟨by kernel_rfl, fun j t ht => by
        rw [Tryd.params3] at ht
        have hm : t ∈ [3, 22] := by simpa using Array.mem_of_getElem? ht
        have hall : ([3, 22].all fun u => !Tryd.prog.wantsStandIn u) = true := by kernel_rfl
        exact (show Tryd.prog.wantsStandIn t = false by simpa using List.all_eq_true.1 hall t hm)⟩)
    (by kernel_rfl)
#print axioms proved
end Go.Proofs.YtdhmponbakodmaaDoor.hallSays
