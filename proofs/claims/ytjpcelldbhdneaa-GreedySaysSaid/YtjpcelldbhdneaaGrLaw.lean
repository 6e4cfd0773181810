
/-
  rotalaw.GreedySays: the answers, in pairs.
-/
import Derived.Test.YtjpcelldbhdneaaGrH
import Derived.Test.YtjpcelldbhdneaaMatOpen
namespace Go.Proofs.Ytjpcelldbhdneaa
open Go.RowKit
set_option linter.unusedVariables false

theorem rkd_lt (wf : Nat → Int) (m : Nat) : ∀ j, j < m → (rkd wf m).getD j 0 < m := fun j hj => (rkd_mem _ _ m).1 (getD_memN (by rw [rkd_len]; exact hj))
/-- an order of all elements: what the reference takes is what the code takes -/
theorem c_greedyOrd {B : Nat} {W : World} (v : Later B W) (m : Nat) (hm : m ≤ 8) (L O : List Nat) (hM : IsMat m L) (a c : Option Addr) (cap cc : Nat) (h : IntsAt B W a (ints L)) (hlen : L.length ≤ 4611686018427387904) (ho : IntsAt B W c (ints O)) (hO : isOrd m (ints O)) :
    Calls Try.prog 85 #[.agg #[.int .i64 m, .slice a (ints L).length cap], .slice c (ints O).length cc] v.val (Ret B W (.int .i64 (takTo L O m))) := by
  have hb := bit_le m hm
  obtain ⟨O', e, h1, h2, h3, h4⟩ := isOrd_open hm hO
  have := ints_inj e
  subst this
  have hbas := takTo_basis hm hM.ne hM.fam hM.exch hM.lt h2 h4
  obtain ⟨i, hi, ei⟩ := List.getElem_of_mem hbas
  refine c_refGreedy v m (takTo L O m) hm L O (fun i hi => by have := hM.lt _ (getD_memN hi); omega) (List.length_pos_iff.2 hM.ne) a c cap cc h hlen ho h1 h2 ⟨i, hi, by simp [hi, ei]⟩ (fun i hi hne => ?_)
  exact greedy_first hm hM.ne hM.fam hM.exch hM.lt h1 h2 h3 h4 (getD_memN hi) hne

/-- Best and Steps, and what the law holds them against -/
theorem gr_pack1 (n : Int) (l ws : List Int) (a b : Option Addr) (cap capb : Nat) (hlen : l.length ≤ 4611686018427387904) (hwl : ws.length ≤ 4611686018427387904) (e : Int) (he : MatIs n l e) : ∃ (bv nv : Int) (Sl : List Int) (g : Int),
    Sl.length ≤ 4611686018427387904 ∧ (g ≠ 0 → bv = 0 ∧ nv = 0 ∧ Sl = []) ∧
    (∀ (B : Nat) (W : World) (v : Later B W), IntsAt B W a l → IntsAt B W b ws → Calls Try.prog 82 #[.agg #[.int .i64 n, .slice a l.length cap], .slice b ws.length capb] v.val (Ret B W (.tuple #[.int .i64 bv, .int .i64 nv, .int .i64 g]))) ∧
    (∀ (B : Nat) (W : World) (v : Later B W), IntsAt B W a l → IntsAt B W b ws → Calls Try.prog 83 #[.agg #[.int .i64 n, .slice a l.length cap], .slice b ws.length capb] v.val (RetP B W (ListE Sl g))) ∧
    (∀ (B : Nat) (W : World) (v : Later B W), IntsAt B W a l → IntsAt B W b ws → Calls Try.prog 84 #[.agg #[.int .i64 n, .slice a l.length cap], .slice b ws.length capb] v.val (Ret B W (.int .i64 g))) ∧
    (g = 0 → ∃ RK : List Int, (∀ (B : Nat) (W : World) (v : Later B W), IntsAt B W b ws → Calls Try.prog 86 #[.slice b ws.length capb] v.val (RetInts B W RK)) ∧
      (∀ (B : Nat) (W : World) (v : Later B W) (c : Option Addr) (cc : Nat), IntsAt B W a l → IntsAt B W c RK → Calls Try.prog 85 #[.agg #[.int .i64 n, .slice a l.length cap], .slice c RK.length cc] v.val (Ret B W (.int .i64 bv))) ∧
      (∀ (B : Nat) (W : World) (v : Later B W), IntsAt B W a l → IntsAt B W b ws → Calls Try.prog 87 #[.agg #[.int .i64 n, .slice a l.length cap], .slice b ws.length capb] v.val (RetInts B W Sl)) ∧
      (∀ (B : Nat) (W : World) (v : Later B W), IntsAt B W b ws → Calls Try.prog 88 #[.slice b ws.length capb, .int .i64 bv] v.val (Ret B W (.int .i64 nv)))) := by
  by_cases h0 : e = 0
  case neg =>
    exact ⟨0, 0, [], e, Nat.zero_le _, fun _ => ⟨rfl, rfl, rfl⟩, fun B W v h hw => c_best_no v n l.length a cap e h0 b ws.length capb (fun v => c_weights_no v n l a cap e h hlen he h0 _), fun B W v h hw => c_steps_no v n l.length a cap e h0 b ws.length capb (fun v => c_weights_no v n l a cap e h hlen he h0 _), fun B W v h hw => c_lawPriced_no v n l a cap e h hlen he h0 _, fun c => absurd c h0⟩
  subst h0
  obtain ⟨m, L, rfl, hm, rfl, hTN⟩ := mat_open he
  have hM := IsMat.of he hTN
  have hb := bit_le m hm
  obtain ⟨g, hg⟩ := PrcIs.ex m ws
  by_cases hg0 : g = 0
  case neg =>
    exact ⟨0, 0, [], g, Nat.zero_le _, fun _ => ⟨rfl, rfl, rfl⟩, fun B W v h hw => c_best_no v m (ints L).length a cap g hg0 b ws.length capb (fun v => c_weights v m (ints L) ws a b cap capb g h hlen he hw hwl hm hg), fun B W v h hw => c_steps_no v m (ints L).length a cap g hg0 b ws.length capb (fun v => c_weights v m (ints L) ws a b cap capb g h hlen he hw hwl hm hg), fun B W v h hw => c_lawPriced v m (ints L) ws a b cap capb g h hlen he hw hwl hm hg, fun c => absurd c hg0⟩
  subst hg0
  have hwm := hg.ok.1
  have hG8 := takTo_lt (L := L) (rkd_lt (fun i => ws.getD i 0) m) m (Nat.le_refl _)
  have hord := rkd_isOrd (fun i => ws.getD i 0) m
  have hrl : (ints (rkd (fun i => ws.getD i 0) m)).length = m := by rw [ints_len, rkd_len]
  have hlenL : L.length ≤ 4611686018427387904 := by rw [ints_len] at hlen; exact hlen
  refine ⟨(takTo L (rkd (fun i => ws.getD i 0) m) m : Nat), wsT (fun i => ws.getD i 0) (takTo L (rkd (fun i => ws.getD i 0) m) m) m, climbL (stp (rkd (fun i => ws.getD i 0) m) (takTo L (rkd (fun i => ws.getD i 0) m) m)) (stp (rkd (fun i => ws.getD i 0) m) (takTo L (rkd (fun i => ws.getD i 0) m) m)).length, 0, ?_, fun c => absurd rfl c, fun B W v h hw => ?_, fun B W v h hw => ?_, fun B W v h hw => ?_, fun _ => ⟨ints (rkd (fun i => ws.getD i 0) m), fun B W v hw => ?_, fun B W v c cc h ho => ?_, fun B W v h hw => ?_, fun B W v hw => ?_⟩⟩
  · rw [climbL_len]
    have h1 : (stp (rkd (fun i => ws.getD i 0) m) (takTo L (rkd (fun i => ws.getD i 0) m) m)).length ≤ (rkd (fun i => ws.getD i 0) m).length := List.length_filter_le _ _
    rw [rkd_len] at h1
    omega
  · have := c_best v m hm (ints L) ws a b cap capb h hlen he hw hg
    rw [hTN] at this
    rw [hwm]; exact this
  · rw [hwm]
    refine c_steps v m (takTo L (rkd (fun i => ws.getD i 0) m) m) hm (ints L).length (wsT (fun i => ws.getD i 0) (takTo L (rkd (fun i => ws.getD i 0) m) m) m) ws a b cap capb hw hwm hG8 (fun y => ?_)
    have := c_best (Later.self y.val) m hm (ints L) ws a b cap capb (h.to (v.up y)) hlen he (hw.to (v.up y)) hg
    rw [hTN] at this
    exact this
  · exact c_lawPriced v m (ints L) ws a b cap capb 0 h hlen he hw hwl hm hg
  · rw [hwm]; exact c_ranked v m hm ws b capb hw hwm
  · exact c_greedyOrd v m hm L _ hM a c cap cc h hlenL ho hord
  · rw [hwm]
    refine c_climb v m (takTo L (rkd (fun i => ws.getD i 0) m) m) hm (ints L).length ws a b cap capb hw hwm hG8 (fun y c cc hI => ?_)
    have := c_greedyOrd (Later.self y.val) m hm L _ hM a c cap cc (h.to (v.up y)) hlenL hI hord
    rw [hrl] at this
    exact this
  · exact c_weighs v m _ hm hG8 ws b capb hw hg

/-- First, and what the law holds it against -/
theorem gr_pack2 (n : Int) (l p : List Int) (a b : Option Addr) (cap capb : Nat) (hlen : l.length ≤ 4611686018427387904) (hpl : p.length ≤ 4611686018427387904) (e : Int) (he : MatIs n l e) : ∃ (tv h : Int) (io : Bool),
    (h ≠ 0 → tv = 0) ∧ (e ≠ 0 → h = e) ∧ (e = 0 → h = errno io 1) ∧
    (∀ (B : Nat) (W : World) (v : Later B W), IntsAt B W a l → IntsAt B W b p → Calls Try.prog 89 #[.agg #[.int .i64 n, .slice a l.length cap], .slice b p.length capb] v.val (Ret B W (.tuple #[.int .i64 tv, .int .i64 h]))) ∧
    (e = 0 → (∀ (B : Nat) (W : World) (v : Later B W), IntsAt B W b p → Calls Try.prog 90 #[.slice b p.length capb, .int .i64 n] v.val (Ret B W (.bool io)))) ∧
    (h = 0 → (∀ (B : Nat) (W : World) (v : Later B W), IntsAt B W a l → IntsAt B W b p → Calls Try.prog 85 #[.agg #[.int .i64 n, .slice a l.length cap], .slice b p.length capb] v.val (Ret B W (.int .i64 tv)))) := by
  by_cases h0 : e = 0
  case neg =>
    exact ⟨0, e, false, fun _ => rfl, fun _ => rfl, fun c => absurd c h0, fun B W v h hp => c_first_no v n l a cap e h hlen he h0 _, fun c => absurd c h0, fun c => absurd c h0⟩
  subst h0
  obtain ⟨m, L, rfl, hm, rfl, hTN⟩ := mat_open he
  have hM := IsMat.of he hTN
  have hlenL : L.length ≤ 4611686018427387904 := by rw [ints_len] at hlen; exact hlen
  refine ⟨frsV m L p, frsE m p, decide (isOrd m p), fun h => ?_, fun c => absurd rfl c, fun _ => ?_, fun B W v h hp => ?_, fun _ B W v hp => c_isOrder v m hm p b capb hp hpl, fun h B W v hI hp => ?_⟩
  · unfold frsE at h
    unfold frsV
    by_cases ho : isOrd m p
    · rw [if_pos ho] at h; exact absurd rfl h
    · rw [if_neg ho]; rfl
  · unfold frsE errno
    by_cases ho : isOrd m p
    · rw [if_pos ho, decide_eq_true ho]; rfl
    · rw [if_neg ho, decide_eq_false ho]; rfl
  · have := c_first2 v m hm (ints L) p a b cap capb h hlen he hp hpl
    rw [hTN] at this
    exact this
  · unfold frsE at h
    by_cases ho : isOrd m p
    · obtain ⟨O, hO, _⟩ := isOrd_open hm ho
      subst hO
      have e1 : toN (ints O) = O := ints_inj (by rw [ints_toN]; intro i hi; rw [ints_getD]; omega)
      unfold frsV
      rw [if_pos ho, e1]
      exact c_greedyOrd v m hm L O hM a b cap capb hI hlenL hp ho
    · rw [if_neg ho] at h; exact absurd h (by decide)

end Go.Proofs.Ytjpcelldbhdneaa
