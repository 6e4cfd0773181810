
/-
  rotalaw.MinorsSays, whatever it is handed.
-/
import Derived.Test.YtjpcelldbhdneaaMinLaw
namespace Go.Proofs.Ytjpcelldbhdneaa
open Go.RowKit
set_option linter.unusedVariables false

theorem fam_card {m : Nat} {L : List Nat} (hm : m ≤ 8) (h : isFam (m : Int) (ints L)) : L.length ≤ bit m := by
  have hb := bit_le m hm
  obtain ⟨_, _, hf⟩ := h
  have key : ∀ i, i < L.length → i ≤ L.getD i 0 := by
    intro i
    induction i with
    | zero => intro _; omega
    | succ i ih =>
      intro hi
      have h1 := ih (by omega)
      have h2 := (hf (i + 1) (by rw [ints_len]; exact hi)).2.2 (by omega)
      rw [ints_getD, ints_getD, show i + 1 - 1 = i from rfl] at h2
      omega
  by_cases hz : L.length = 0
  · omega
  · have h3 := key (L.length - 1) (by omega)
    have h4 := (hf (L.length - 1) (by rw [ints_len]; omega)).2.1
    rw [ints_getD, all_nat] at h4
    omega

theorem law_minorsSays {B : Nat} {W : World} (u : Later B W) (n s k : Int) (l : List Int) (a : Option Addr) (cap : Nat) (h : IntsAt B W a l) (hlen : l.length ≤ 4611686018427387904) :
    Calls Try.prog 5 #[.agg #[.int .i64 n, .slice a l.length cap], .int .i64 s, .int .i64 k] u.val (Ret B W (.bool true)) := by
  obtain ⟨e, he⟩ := MatIs.ex n l
  by_cases h0 : e = 0
  case neg =>
    have hl0 : Hid (([] : List Int).length ≤ 4611686018427387904) := Lib.hid (Nat.zero_le _)
    have hz : Hid (ZIf e 0 []) := Lib.hid (fun _ => ⟨rfl, rfl⟩)
    exact law_min_no u n s k l a cap h hlen e he h0 0 0 0 0 [] [] [] [] hl0 hl0 hl0 hl0 hz hz hz hz
      (fun B W v hI => c_minDual_no v n l a cap e hI hlen he h0)
      (fun B W v hI => c_minDelete_no v n s l a cap e hI h0 (fun B W v hI => c_right_no v n s l a cap e hI hlen he h0))
      (fun B W v hI => c_minContract_no v n s l a cap e hI h0 (fun B W v hI => c_right_no v n s l a cap e hI hlen he h0))
      (fun B W v hI => c_minTrunc_no v n k l a cap e hI hlen he h0)
  subst h0
  obtain ⟨m, L, rfl, hm, rfl, hTN⟩ := mat_open he
  have hM := IsMat.of he hTN
  have hbm := bit_le m hm
  have h256 : ∀ b, b ∈ L → b < 256 := fun b hb => by have := hM.lt b hb; omega
  have hL2 : L.length ≤ 1048576 := by have := fam_card hm hM.isfam; omega
  have hl0 : 0 < L.length := List.length_pos_iff.2 hM.ne
  have hL0 : L.getD 0 0 < 256 := h256 _ (by simp [hl0])
  have hlen4 : ∀ (q : Nat) (p : Nat → Bool), q ≤ 8 → Hid ((ints (those q p)).length ≤ 4611686018427387904) := fun q p hq => Lib.hid (by
    rw [ints_len]
    have h1 := thoseTo_len p (bit q)
    have h2 := bit_le q hq
    have e : those q p = thoseTo p (bit q) := rfl
    rw [e]; omega)
  have e1 := dual_same hm hM.ne hM.fam hM.lt
  have hr8 := sz_le (L.getD 0 0)
  have hgd : (ints L).getD 0 0 = ((L.getD 0 0 : Nat) : Int) := ints_getD L 0
  obtain ⟨n2, xs2, n3, xs3, e8, he8, hl2, hl3, hz2, hz3, hP2, hP3, hQ2, hQ3⟩ : ∃ (n2 : Int) (xs2 : List Int) (n3 : Int) (xs3 : List Int) (e8 : Int), e8 = errno (decide (isSet (m : Int) s)) 1 ∧ Hid (xs2.length ≤ 4611686018427387904) ∧ Hid (xs3.length ≤ 4611686018427387904) ∧ Hid (ZIf e8 n2 xs2) ∧ Hid (ZIf e8 n3 xs3) ∧
      (∀ (B : Nat) (W : World) (v : Later B W), IntsAt B W a (ints L) → Calls Try.prog 49 #[.agg #[.int .i64 m, .slice a (ints L).length cap], .int .i64 s] v.val (RetP B W (MatTO B n2 xs2 e8))) ∧
      (∀ (B : Nat) (W : World) (v : Later B W), IntsAt B W a (ints L) → Calls Try.prog 50 #[.agg #[.int .i64 m, .slice a (ints L).length cap], .int .i64 s] v.val (RetP B W (MatTO B n3 xs3 e8))) ∧
      (decide (isSet (m : Int) s) = true → ∀ (B : Nat) (W : World) (v : Later B W), IntsAt B W a (ints L) → Calls Try.prog 45 #[.agg #[.int .i64 m, .slice a (ints L).length cap], .int .i64 s] v.val (RetP B W (MatO B n2 xs2))) ∧
      (decide (isSet (m : Int) s) = true → ∀ (B : Nat) (W : World) (v : Later B W), IntsAt B W a (ints L) → Calls Try.prog 46 #[.agg #[.int .i64 m, .slice a (ints L).length cap], .int .i64 s] v.val (RetP B W (MatO B n3 xs3))) := by
    by_cases hs : isSet (m : Int) s
    · obtain ⟨s', rfl⟩ := Int.eq_ofNat_of_zero_le hs.2.2.1
      have hs' : s' < bit m := by have := hs.2.2.2; rw [all_nat] at this; omega
      have hc := cnt_le s' m
      refine ⟨(cnt s' m : Nat), ints (those (cnt s' m) (memB (delL m L s'))), (cnt s' m : Nat), ints (those (cnt s' m) (memB (conL m L s'))), 0, by rw [decide_eq_true hs]; rfl, hlen4 _ _ (by omega), hlen4 _ _ (by omega), Lib.hid (fun h => absurd rfl h), Lib.hid (fun h => absurd rfl h), ?_, ?_, ?_, ?_⟩
      · exact fun B W v hI => c_minDelete v m hm s' hs' L h256 hL2 a cap hI he
      · exact fun B W v hI => c_minContract v m hm s' hs' L h256 hL2 a cap hI he
      · intro _ B W v hI
        rw [del_same hm hM.ne hM.fam hM.lt hs']
        exact c_refDeleted v m hm L a cap hI hlen hM.isfam hTN s' hs'
      · intro _ B W v hI
        rw [con_same hm hM.ne hM.fam hM.lt hs']
        exact c_refContracted v m hm L a cap hI hlen hM.isfam hTN s' hs'
    · have hR : ∀ (B : Nat) (W : World) (v : Later B W), IntsAt B W a (ints L) → Calls Try.prog 165 #[.agg #[.int .i64 m, .slice a (ints L).length cap], .int .i64 s] v.val (Ret B W (.int .i64 1)) := fun B W v hI => by
        have := c_right v m s (ints L) a cap hI hlen he
        rwa [decide_eq_false hs] at this
      exact ⟨0, [], 0, [], 1, by rw [decide_eq_false hs]; rfl, Lib.hid (Nat.zero_le _), Lib.hid (Nat.zero_le _), Lib.hid (fun _ => ⟨rfl, rfl⟩), Lib.hid (fun _ => ⟨rfl, rfl⟩), fun B W v hI => c_minDelete_no v m s (ints L) a cap 1 hI (by decide) hR, fun B W v hI => c_minContract_no v m s (ints L) a cap 1 hI (by decide) hR, fun h => absurd (of_decide_eq_true h) hs, fun h => absurd (of_decide_eq_true h) hs⟩
  by_cases hk : 0 ≤ k ∧ k ≤ (sz (L.getD 0 0) : Int)
  ·
    exact law_min_yes u m s k (ints L) a cap h hlen 0 e8 0 he rfl m n2 n3 m (ints (those m (memB (L.map (fun b => nand (bit m - 1) b))))) xs2 xs3 (ints (those m (memB ((those m (indP L)).filter (fun s => decide ((sz s : Int) = k)))))) (hlen4 _ _ hm) hl2 hl3 (hlen4 _ _ hm) (Lib.hid (fun h => absurd rfl h)) hz2 hz3 (Lib.hid (fun h => absurd rfl h)) (fun B W v hI => c_minDual v m hm L h256 hL2 a cap hI he) hP2 hP3 (fun B W v hI => c_minTrunc v m hm k L h256 hM.ne a cap hI hlen he hTN hk.1 hk.2) _ true he8 rfl (L.getD 0 0) (sz (L.getD 0 0)) (by rw [ints_len]; exact hl0) hgd hr8 (decide_eq_true hk).symm (fun B W v => c_isSet v m s) (fun B W v => c_size v _ hL0) (fun B W v hI => by rw [e1]; exact c_refDual v m hm L a cap hI hlen hM.isfam hTN) hQ2 hQ3 (fun _ B W v hI => by rw [cut_same hm hM.ne hM.fam hM.lt hk.1 hk.2]; exact c_refCut v m hm L a cap hI hlen hM.isfam hTN k)
  ·
    exact law_min_yes u m s k (ints L) a cap h hlen 0 e8 1 he rfl m n2 n3 0 (ints (those m (memB (L.map (fun b => nand (bit m - 1) b))))) xs2 xs3 [] (hlen4 _ _ hm) hl2 hl3 (Lib.hid (Nat.zero_le _)) (Lib.hid (fun h => absurd rfl h)) hz2 hz3 (Lib.hid (fun _ => ⟨rfl, rfl⟩)) (fun B W v hI => c_minDual v m hm L h256 hL2 a cap hI he) hP2 hP3 (fun B W v hI => c_minTrunc_bad v m hm k L h256 hM.ne a cap hI hlen he hk) _ false he8 rfl (L.getD 0 0) (sz (L.getD 0 0)) (by rw [ints_len]; exact hl0) hgd hr8 (decide_eq_false hk).symm (fun B W v => c_isSet v m s) (fun B W v => c_size v _ hL0) (fun B W v hI => by rw [e1]; exact c_refDual v m hm L a cap hI hlen hM.isfam hTN) hQ2 hQ3 (fun h => by cases h)

end Go.Proofs.Ytjpcelldbhdneaa
