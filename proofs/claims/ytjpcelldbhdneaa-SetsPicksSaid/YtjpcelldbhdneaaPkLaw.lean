
/-
  rotalaw.SetsPicks, whatever it is handed.
-/
import Derived.Test.YtjpcelldbhdneaaPkB
import Derived.Test.YtjpcelldbhdneaaPkD
import Derived.Test.YtjpcelldbhdneaaPkE
import Derived.Test.YtjpcelldbhdneaaThread
import Derived.Test.YtjpcelldbhdneaaConv2
import Derived.Test.YtjpcelldbhdneaaAxi2
namespace Go.Proofs.Ytjpcelldbhdneaa
open Go.RowKit
set_option linter.unusedVariables false

theorem fam_pw {m : Nat} {L : List Nat} (h : isFam (m : Int) (ints L)) : L.Pairwise (· < ·) := by
  have hr := h.2.2.rising
  rw [List.pairwise_iff_getElem]
  intro i j hi hj hij
  have := hr i j hij (by rw [ints_len]; exact hj)
  rw [ints_getD, ints_getD] at this
  have e1 : L.getD i 0 = L[i] := by simp [hi]
  have e2 : L.getD j 0 = L[j] := by simp [hj]
  rw [e1, e2] at this
  omega
theorem fam_le {m : Nat} {L : List Nat} (hm : m ≤ 8) (h : isFam (m : Int) (ints L)) : L.length ≤ bit m := by
  have hb := bit_le m hm
  obtain ⟨_, _, hf⟩ := h
  have key : ∀ i, i < L.length → i ≤ L.getD i 0 := by
    intro i
    induction i with
    | zero => intro _; omega
    | succ i ih =>
      intro hi
      have h1 := ih (by omega)
      have h2 := (hf (i + 1) (by rw [ints_len]; exact hi)).2.2 (by omega)
      rw [ints_getD, ints_getD, show i + 1 - 1 = i from rfl] at h2
      omega
  by_cases hz : L.length = 0
  · omega
  · have h3 := key (L.length - 1) (by omega)
    have h4 := (hf (L.length - 1) (by rw [ints_len]; omega)).2.1
    rw [ints_getD, all_nat] at h4
    omega
theorem fam_open {n : Int} {l : List Int} (h : isFam n l) : ∃ (m : Nat) (L : List Nat), n = (m : Int) ∧ m ≤ 8 ∧ l = ints L ∧ (∀ b, b ∈ L → b < bit m) ∧ L.Pairwise (· < ·) ∧ L.length ≤ 256 ∧ isFam (m : Int) (ints L) := by
  obtain ⟨m, rfl⟩ := Int.eq_ofNat_of_zero_le h.1
  have hl := fam_ints h
  have hm : m ≤ 8 := by have := h.2.1; omega
  have hb := bit_le m hm
  have h2 : isFam (m : Int) (ints (toN l)) := by rw [hl]; exact h
  have hlt := fam_lt h
  exact ⟨m, toN l, rfl, hm, hl.symm, by simpa using hlt, fam_pw h2, by have := fam_le hm h2; omega, h2⟩

set_option maxRecDepth 100000 in
set_option maxHeartbeats 4000000 in
theorem c_pickTell {B : Nat} {W : World} (u : Later B W) (k g s : Nat) (hs : s < 256) (hg : g < B) (hc : W.cell? ⟨g, 0, none⟩ = some (.int .i64 k)) :
    Calls Try.prog 92 #[.int .i64 s, .pointer (some ⟨g, 0, none⟩)] u.val (Ret B W (.bool (decide (sz s = k)))) := by
  have q0 : ∀ u : Later B W, u.val.cell? ⟨g, 0, none⟩ = some (.int .i64 k) := fun u => by rw [u.cell hg, hc]
  have KS := Lib.hid (fun w : Later B W => c_size w s hs)
  have HR : Hid (((sz s : Int) == (k : Int)) = decide (sz s = k)) := Lib.hid (by rw [Bool.eq_iff_iff]; simp; omega)
  clear hc
  generalize decide (sz s = k) = r at *
  generalize sz s = z at *
  go_enter Try.func92, Try.ntmps92
  go_wp2
  refine wp_region_later u (by kernel_rfl) (by kernel_rfl) (fun _ => ?_)
  repeat (first | go_big_quiet_step (((go_at_call 44; exact KS.out _))) | (refine wpQuiet_step (fun K hK => ?_); go_simp; refine ⟨_, fun _ => rfl, ?_⟩; refine hK _ ?_; clear hK K))
  refine wpQuiet_nil ?_
  intro u
  go_wp2
  go_ret
  exact Ret.mk u (vbool HR.out)

theorem those_len4 (m : Nat) (hm : m ≤ 8) (p : Nat → Bool) : (ints (those m p)).length ≤ 4611686018427387904 := by
  rw [ints_len]
  have h1 := thoseTo_len p (bit m)
  have h2 := bit_le m hm
  have e : those m p = thoseTo p (bit m) := rfl
  rw [e]; omega

/-- Choose and what the law holds it against -/
theorem pick_choose (n k : Int) : ∃ (X : List Int) (e1 : Int), e1 = errno (decide (isChoice n k)) 1 ∧ X.length ≤ 4611686018427387904 ∧ (e1 ≠ 0 → X = []) ∧
    (∀ (B : Nat) (W : World) (v : Later B W), Calls Try.prog 91 #[.int .i64 n, .int .i64 k] v.val (RetP B W (ListE X e1))) ∧
    (e1 = 0 → ∀ (B : Nat) (W : World) (v : Later B W) (g : Nat), g < B → W.cell? ⟨g, 0, none⟩ = some (.int .i64 k) → Calls Try.prog 58 #[.int .i64 n, .func (.func 92) #[] #[.pointer (some ⟨g, 0, none⟩)]] v.val (RetInts B W X)) := by
  by_cases hc : isChoice n k
  · have hc' := hc
    obtain ⟨h1, h2, h3, h4⟩ := hc'
    obtain ⟨m, rfl⟩ := Int.eq_ofNat_of_zero_le h1
    obtain ⟨q, rfl⟩ := Int.eq_ofNat_of_zero_le h3
    have hm : m ≤ 8 := by omega
    have hb := bit_le m hm
    refine ⟨ints (those m (fun s => decide (sz s = q))), 0, by rw [decide_eq_true hc]; rfl, those_len4 m hm _, fun h => absurd rfl h, fun B W v => listE_of (c_choose v m q hm (by omega)), fun _ B W v g hg hcell => ?_⟩
    refine c_those v m hm _ _ (fun s => decide (sz s = q)) (fun args w => by kernel_rfl) (fun x w s hs => ?_)
    exact c_pickTell w q g s (by omega) (Nat.lt_of_lt_of_le hg x.size) (by rw [x.cell hg]; exact hcell)
  · exact ⟨[], 1, by rw [decide_eq_false hc]; rfl, Nat.zero_le _, fun _ => rfl, fun B W v => c_choose_no v n k hc, fun h => absurd h (by decide)⟩

/-- Below and what the law holds it against -/
theorem pick_below (a b : Int) : ∃ (h1 hh : Int) (ok : Bool), h1 = errno (decide (isSet 8 a) && decide (isSet 8 b)) 1 ∧
    (∀ (B : Nat) (W : World) (v : Later B W), Calls Try.prog 93 #[.int .i64 a, .int .i64 b] v.val (Ret B W (.tuple #[.bool ok, .int .i64 hh]))) ∧
    (h1 ≠ 0 → h1 = 1 ∧ hh = 1 ∧ ok = false) ∧
    (h1 = 0 → ∃ a' b' : Nat, a = a' ∧ b = b' ∧ a' < 256 ∧ b' < 256 ∧ ((sz a' ≠ sz b' ∧ hh = 3 ∧ ok = false) ∨ (sz a' = sz b' ∧ hh = 0 ∧ ok = galeB a' b'))) := by
  by_cases hs : isSet 8 a ∧ isSet 8 b
  · obtain ⟨a', rfl, ha⟩ := is8 hs.1
    obtain ⟨b', rfl, hb⟩ := is8 hs.2
    have e0 : (0 : Int) = errno (decide (isSet 8 (a' : Int)) && decide (isSet 8 (b' : Int))) 1 := by rw [decide_eq_true hs.1, decide_eq_true hs.2]; rfl
    by_cases hz : sz a' = sz b'
    · exact ⟨0, 0, belB a' b', e0, fun B W v => c_below v a' b' ha hb hz, fun h => absurd rfl h, fun _ => ⟨a', b', rfl, rfl, ha, hb, .inr ⟨hz, rfl, gale_is hz⟩⟩⟩
    · exact ⟨0, 3, false, e0, fun B W v => c_below_shape v a' b' ha hb hz, fun h => absurd rfl h, fun _ => ⟨a', b', rfl, rfl, ha, hb, .inl ⟨hz, rfl, rfl⟩⟩⟩
  · have hd : (decide (isSet 8 a) && decide (isSet 8 b)) = false := by rw [Bool.and_eq_false_iff, decide_eq_false_iff_not, decide_eq_false_iff_not]; exact Decidable.not_and_iff_not_or_not.1 hs
    exact ⟨1, 1, false, by rw [hd]; rfl, fun B W v => c_below_arg v a b hs, fun _ => ⟨rfl, rfl, rfl⟩, fun h => absurd h (by decide)⟩

/-- Least, Most, Shadow, Blocker and what the law holds them against -/
theorem pick_fam (n : Int) (l : List Int) (ad : Option Addr) (cap : Nat) (hlen : l.length ≤ 4611686018427387904) : ∃ (A1 A2 A3 A4 : List Int) (e4 : Int), e4 = errno (decide (isFam n l)) 1 ∧
    A1.length ≤ 4611686018427387904 ∧ A2.length ≤ 4611686018427387904 ∧ A3.length ≤ 4611686018427387904 ∧ A4.length ≤ 4611686018427387904 ∧
    (e4 ≠ 0 → A1 = [] ∧ A2 = [] ∧ A3 = [] ∧ A4 = []) ∧
    (∀ (B : Nat) (W : World) (v : Later B W), IntsAt B W ad l → Calls Try.prog 99 #[.int .i64 n, .slice ad l.length cap] v.val (RetP B W (ListE A1 e4))) ∧
    (∀ (B : Nat) (W : World) (v : Later B W), IntsAt B W ad l → Calls Try.prog 100 #[.int .i64 n, .slice ad l.length cap] v.val (RetP B W (ListE A2 e4))) ∧
    (∀ (B : Nat) (W : World) (v : Later B W), IntsAt B W ad l → Calls Try.prog 101 #[.int .i64 n, .slice ad l.length cap] v.val (RetP B W (ListE A3 e4))) ∧
    (∀ (B : Nat) (W : World) (v : Later B W), IntsAt B W ad l → Calls Try.prog 102 #[.int .i64 n, .slice ad l.length cap] v.val (RetP B W (ListE A4 e4))) ∧
    (e4 = 0 → (∀ (B : Nat) (W : World) (v : Later B W), IntsAt B W ad l → Calls Try.prog 95 #[.int .i64 n, .slice ad l.length cap] v.val (RetInts B W A1)) ∧
      (∀ (B : Nat) (W : World) (v : Later B W), IntsAt B W ad l → Calls Try.prog 96 #[.int .i64 n, .slice ad l.length cap] v.val (RetInts B W A2)) ∧
      (∀ (B : Nat) (W : World) (v : Later B W), IntsAt B W ad l → Calls Try.prog 97 #[.int .i64 n, .slice ad l.length cap] v.val (RetInts B W A3)) ∧
      (∀ (B : Nat) (W : World) (v : Later B W), IntsAt B W ad l → Calls Try.prog 98 #[.int .i64 n, .slice ad l.length cap] v.val (RetInts B W A4))) := by
  by_cases hf : isFam n l
  · obtain ⟨m, L, rfl, hm, rfl, hL, hpw, hl2, hf2⟩ := fam_open hf
    have hb := bit_le m hm
    have h256 : ∀ b, b ∈ L → b < 256 := fun b hb' => by have := hL b hb'; omega
    have hl3 : L.length ≤ 1048576 := by omega
    refine ⟨ints (those m (leastB L)), ints (those m (mostB L)), ints (those m (shadB m L)), ints (those m (leastB (those m (meetsB L)))), 0, by rw [decide_eq_true hf]; rfl, those_len4 m hm _, those_len4 m hm _, those_len4 m hm _, those_len4 m hm _, fun h => absurd rfl h, fun B W v h => ?_, fun B W v h => ?_, fun B W v h => ?_, fun B W v h => ?_, fun _ => ⟨fun B W v h => ?_, fun B W v h => ?_, fun B W v h => ?_, fun B W v h => ?_⟩⟩
    · rw [← filt_least hpw hL]; exact listE_of (c_setsLeast v m L h256 hl3 ad cap h hf2)
    · rw [← filt_most hpw hL]; exact listE_of (c_setsMost v m L h256 hl3 ad cap h hf2)
    · exact listE_of (c_setsShadow v m hm L hL hl3 ad cap h hf2)
    · exact listE_of (c_setsBlocker v m hm L hL hl3 ad cap h hf2)
    · exact c_leastR v m hm L h256 (by omega) ad cap h
    · exact c_mostR v m hm L h256 (by omega) ad cap h
    · exact c_shadowR v m hm L hl3 ad cap h
    · exact c_blockerR v m hm L h256 hl3 ad cap h
  · exact ⟨[], [], [], [], 1, by rw [decide_eq_false hf]; rfl, Nat.zero_le _, Nat.zero_le _, Nat.zero_le _, Nat.zero_le _, fun _ => ⟨rfl, rfl, rfl, rfl⟩, fun B W v h => c_setsLeast_no v n l hlen ad cap h hf, fun B W v h => c_setsMost_no v n l hlen ad cap h hf, fun B W v h => c_setsShadow_no v n l hlen ad cap h hf, fun B W v h => c_setsBlocker_no v n l hlen ad cap h hf, fun h => absurd h (by decide)⟩

end Go.Proofs.Ytjpcelldbhdneaa
