
/-
  rotalaw.ComplexSays, whatever it is handed.
-/
import Derived.Test.YtjpcelldbhdneaaCxE
import Derived.Test.YtjpcelldbhdneaaCxF
import Derived.Test.YtjpcelldbhdneaaThread
import Derived.Test.YtjpcelldbhdneaaOnes
import Derived.Test.YtjpcelldbhdneaaFamO
namespace Go.Proofs.Ytjpcelldbhdneaa
open Go.RowKit
set_option linter.unusedVariables false

theorem thread_listE {B : Nat} {W : World} (v : Later B W) (xs : List Int) (er : Int) (a b : Option Addr) (ca cb : Nat) {ls : List (Option Addr × List Int)} (hl : Lists v.val ls) (ha : (a, xs) ∈ ls) (hb : (b, xs) ∈ ls) (hlen : xs.length ≤ 4611686018427387904) (h : er ≠ 0 → xs = []) :
    Calls Try.prog 29 #[.slice a xs.length ca, .int .i64 er, .slice b xs.length cb, .int .i64 er] v.val (Thread0 B W (.bool true) ls) :=
  thread0 v (c_list (Later.self v.val) xs xs a b ca cb er er (hl _ ha) (hl _ hb) hlen rfl (by
    split
    · rfl
    · rename_i hne; exact h hne)) hl

/-- Link and what the law holds it against -/
theorem cx_link (m : Nat) (hm : m ≤ 8) (L : List Nat) (hL : ∀ b, b ∈ L → b < bit m) (hlen : L.length ≤ 1048576) (hf : isFam m (ints L)) (h0 : cxE L = 0) (s : Int) (hs : s < 9223372036854775808) :
    ∃ (hq : Bool) (LK : Nat → List Nat) (s' : Nat), hq = decide (s ∈ ints (those m (freeB L))) ∧ LK 0 = [] ∧ (∀ k, (LK k).length ≤ L.length) ∧
      (hq = true → s = s' ∧ s' < 256 ∧ ∀ k, k < L.length → LK (k + 1) = if L.getD k 0 &&& s' = s' then LK k ++ [nand (L.getD k 0) s'] else LK k) ∧
      (hq = false → ∀ k, LK k = []) ∧
      (∀ (B : Nat) (W : World) (v : Later B W) (a : Option Addr) (cap : Nat), IntsAt B W a (ints L) → Calls Try.prog 114 #[.int .i64 m, .slice a (ints L).length cap, .int .i64 s] v.val (RetP B W (ListE (srt (ints (LK L.length))) (errno hq 1)))) := by
  have hb := bit_le m hm
  have h256 : ∀ b, b ∈ L → b < 256 := fun b hb' => by have := hL b hb'; omega
  have hz : srt (ints []) = [] := by simp [srt, ints]
  by_cases hq : s ∈ ints (those m (freeB L))
  · obtain ⟨s', h1, rfl⟩ := mem_ints2.1 hq
    obtain ⟨h2, h3⟩ := mem_those.1 h1
    refine ⟨true, lnkTo L s', s', by rw [decide_eq_true hq], rfl, lnkTo_len L s', fun _ => ⟨rfl, by omega, fun k hk => lnkTo_step L s' hk⟩, fun h => (by cases h), fun B W v a cap h => ?_⟩
    have := c_cxLink v m s' (by omega) L h256 hlen a cap h hf h0
    have hne : ¬ lnkTo L s' L.length = [] := fun e => by
      have := lnk_nil.1 e
      rw [h3] at this; cases this
    rwa [show lnkE (lnkTo L s' L.length) = errno true 1 by unfold lnkE; rw [if_neg hne]; rfl] at this
  · refine ⟨false, fun _ => [], 0, by rw [decide_eq_false hq], rfl, fun _ => Nat.zero_le _, fun h => (by cases h), fun _ _ => rfl, fun B W v a cap h => ?_⟩
    show Calls _ _ _ _ (RetP B W (ListE (srt (ints [])) 1))
    rw [hz]
    by_cases hn : s < 0
    · exact c_cxLink_neg v m s hn L h256 hlen a cap h hf h0
    · obtain ⟨s', rfl⟩ := Int.eq_ofNat_of_zero_le (show 0 ≤ s by omega)
      have := c_cxLink v m s' (by omega) L h256 hlen a cap h hf h0
      have hfr : freeB L s' = false := by
        rw [Bool.eq_false_iff]
        intro e
        obtain ⟨f, hfm, hsub⟩ := face_iff.1 e
        have hle : s' ≤ s' ||| f := Nat.left_le_or
        rw [or_eq_iff.2 hsub] at hle
        have := hL f hfm
        exact hq (mem_ints2.2 ⟨s', mem_those.2 ⟨by omega, e⟩, rfl⟩)
      have he := lnk_nil.2 hfr
      rw [he, hz] at this
      exact this

set_option maxRecDepth 100000 in
set_option maxHeartbeats 20000000 in
theorem law_cx_no {B : Nat} {W : World} (u : Later B W) (n s : Int) (l : List Int) (hlen : l.length ≤ 4611686018427387904) (a : Option Addr) (cap : Nat) (h : IntsAt B W a l) (e : Int) (he : e ≠ 0)
    (hI : ∀ v : Later B W, Calls Try.prog 103 #[.int .i64 n, .slice a l.length cap] v.val (Ret B W (.int .i64 e))) (hC : ∀ v : Later B W, Calls Try.prog 115 #[.int .i64 n, .slice a l.length cap] v.val (Ret B W (.int .i64 e))) :
    Calls Try.prog 11 #[.int .i64 n, .slice a l.length cap, .int .i64 s] u.val (Ret B W (.bool true)) := by
  have KI := Lib.hid hI
  have KC := Lib.hid hC
  have K1 := Lib.hid (fun v : Later B W => c_cxFaces_no v n l.length a cap e he (hC v))
  have K2 := Lib.hid (fun v : Later B W => c_cxF_no v n l.length a cap e he (hC v))
  have K3 := Lib.hid (fun v : Later B W => c_cxH_no v n l.length a cap e he (hC v))
  have K4 := Lib.hid (fun v : Later B W => c_cxEuler_no v n l.length a cap e he (hC v))
  have K5 := Lib.hid (fun v : Later B W => c_cxDual_no v n l.length a cap e he (hC v))
  have K6 := Lib.hid (fun v : Later B W => c_cxLink_no v n s l.length a cap e he (hC v))
  have KL := Lib.hid (fun (v : Later B W) x cx => c_list_no v e he x cx)
  have KO := Lib.hid (fun v : Later B W => c_one_no v 0 e he)
  have KS : Hid (∀ v : Later B W, Calls Try.prog 108 #[.slice none 0 0] v.val (Ret B W (.tuple #[]))) := Lib.hid (fun v => (c_sort v [] none 0 (Own.nil _ _) (by simp)).mono (by
    rintro e w ⟨rfl, v', rfl, _⟩
    exact ⟨rfl, v', rfl⟩))
  have d0 : (e == 0) = false := by rw [beq_eq_false_iff_ne]; exact he
  have hl46 : l.length ≤ 4611686018427387904 := hlen
  clear hI hC h he hlen
  generalize l.length = q at *
  go_enter Try.func11, Try.ntmps11
  go_wp2_with (first | (go_at_call 103; (with_reducible refine (KI.out _).mono ?_); rintro e _ ⟨rfl, v1, rfl⟩))
  clear u
  go_loopw [14, 76] (fun o i wr => ∃ (k : Nat) (v : Later B W), k ≤ q ∧ o = .slice none 0 0 ∧ i = .int .i64 k ∧ wr = v.val) (fun _ i _ => q - (intOf i).toNat)
  case atStart => exact ⟨0, v1, by omega, rfl, rfl, rfl⟩
  case round =>
    clear v1
    obtain ⟨k, v, hk, rfl, rfl, rfl⟩ := hrel
    by_cases hlt : k < q
    · go_wp2
      go_roundw
      case rel => exact ⟨k+1, v, by omega, rfl, by go_num, rfl⟩
      case measure => simp [intOf]; omega
    · go_wp2_with (first | (go_at_call 108; (with_reducible refine (KS.out _).mono ?_); rintro e _ ⟨rfl, v2, rfl⟩) | (go_at_call 109; (with_reducible refine (K1.out _).mono ?_); rintro e _ ⟨_, rfl, ⟨_, rfl, ⟨ad1, cp1, rfl, _, _⟩⟩, v3, rfl⟩) | (go_at_call 110; (with_reducible refine (K2.out _).mono ?_); rintro e _ ⟨_, rfl, ⟨_, rfl, ⟨ad2, cp2, rfl, _, _⟩⟩, v4, rfl⟩) | (go_at_call 111; (with_reducible refine (K3.out _).mono ?_); rintro e _ ⟨_, rfl, ⟨_, rfl, ⟨ad3, cp3, rfl, _, _⟩⟩, v5, rfl⟩) | (go_at_call 112; (with_reducible refine (K4.out _).mono ?_); rintro e _ ⟨rfl, v6, rfl⟩) | (go_at_call 113; (with_reducible refine (K5.out _).mono ?_); rintro e _ ⟨_, rfl, ⟨_, rfl, ⟨ad5, cp5, rfl, _, _⟩⟩, v7, rfl⟩) | (go_at_call 114; (with_reducible refine (K6.out _).mono ?_); rintro e _ ⟨_, rfl, ⟨_, rfl, ⟨ad6, cp6, rfl, _, _⟩⟩, v8, rfl⟩) | (go_at_call 115; (with_reducible refine (KC.out _).mono ?_); rintro e _ ⟨rfl, v9, rfl⟩) | (go_at_call 29; (with_reducible refine (KL.out _ _ _).mono ?_); rintro e _ ⟨rfl, v9, rfl⟩) | (go_at_call 30; (with_reducible refine (KO.out _).mono ?_); rintro e _ ⟨rfl, v9, rfl⟩))
      go_ret
      exact Ret.mk _ rfl

end Go.Proofs.Ytjpcelldbhdneaa
