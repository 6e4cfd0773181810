/-
  rotaref.Antimatroid says of a family what convex.Check says (ChkIs).
-/
import Derived.Test.YtcljgnmlpfddiaaConv
namespace Go.Proofs.Ytcljgnmlpfddiaa
open Go.RowKit
set_option linter.unusedVariables false

/-- the elements below k have been gone through -/
def downK (l : List Int) (s k : Nat) : Prop := s = 0 ∨ ∃ e, e < k ∧ s.testBit e = true ∧ ((s : Int) - (bit e : Int)) ∈ l
theorem downK_start (l : List Int) (s : Nat) : downK l s 0 ↔ s = 0 := by
  constructor
  · rintro (h | ⟨e, he, _⟩)
    · exact h
    · omega
  · exact .inl
theorem downK_step (l : List Int) (s k : Nat) : downK l s (k + 1) ↔ downK l s k ∨ (s.testBit k = true ∧ ((s : Int) - (bit k : Int)) ∈ l) := by
  constructor
  · rintro (h | ⟨e, he, a, b⟩)
    · exact .inl (.inl h)
    · by_cases c : e = k
      · subst c; exact .inr ⟨a, b⟩
      · exact .inl (.inr ⟨e, by omega, a, b⟩)
  · rintro ((h | ⟨e, he, a, b⟩) | ⟨a, b⟩)
    · exact .inl h
    · exact .inr ⟨e, by omega, a, b⟩
    · exact .inr ⟨k, by omega, a, b⟩
theorem downK_end {l : List Int} {s m : Nat} (hm : m ≤ 8) (hs : s < bit m) : downK l s m ↔ down l s := by
  have hb := bit_le m hm
  have hlt := (lt_pow_iff m s hm (by omega)).1 hs
  constructor
  · rintro (h | ⟨e, he, a, b⟩)
    · exact .inl h
    · have := bit_le_of_mem s e (by omega) (by omega) a
      refine .inr ⟨e, by omega, a, ?_⟩
      rw [show ((s - bit e : Nat) : Int) = (s : Int) - (bit e : Int) by omega]; exact b
  · rintro (h | ⟨e, he, a, b⟩)
    · exact .inl h
    · have := bit_le_of_mem s e (by omega) (by omega) a
      refine .inr ⟨e, hlt e he a, a, ?_⟩
      rw [show ((s - bit e : Nat) : Int) = (s : Int) - (bit e : Int) by omega] at b; exact b

/-- what has been seen of the first k sets: each by itself, and with those ahead of it -/
def seenTo (l : List Int) (k : Nat) : Prop := ∀ j, j < k → ∀ s : Nat, l.getD j 0 = s → down l s ∧ ∀ i, i < j → ∀ t : Nat, l.getD i 0 = t → ((s ||| t : Nat) : Int) ∈ l
theorem seenTo_step {l : List Int} {k s : Nat} (h : seenTo l k) (hk : l.getD k 0 = s) (hd : down l s) (hj : ∀ i, i < k → ∀ t : Nat, l.getD i 0 = t → ((s ||| t : Nat) : Int) ∈ l) : seenTo l (k + 1) := by
  intro j hj' s' hs'
  by_cases e : j = k
  · subst e
    have : s' = s := by rw [hk] at hs'; omega
    subst this; exact ⟨hd, hj⟩
  · exact h j (by omega) s' hs'
theorem seenTo_good {n : Int} {l : List Int} (hf : isFam n l) (h1 : (0 : Int) ∈ l) (h2 : all n ∈ l) (h : seenTo l l.length) : Good n l := by
  refine good_end h1 h2 (fun j hj s hs => ⟨(h j hj s hs).1, joins_end (fun i hi t ht => ?_)⟩)
  by_cases c : i < j
  · exact (h j hj s hs).2 i c t ht
  · by_cases c2 : i = j
    · subst c2
      have : t = s := by rw [hs] at ht; omega
      subst this
      rw [Nat.or_self]
      have : l.getD i 0 ∈ l := by simp [hi]
      rw [ht] at this; exact this
    · rw [Nat.or_comm]; exact (h i hi t ht).2 j (by omega) s hs

set_option maxHeartbeats 2000000 in
theorem c_antimatroid {B : Nat} {W : World} (u : Later B W) (n : Int) (l : List Int) (a : Option Addr) (cap : Nat) (e : Int) (h : IntsAt B W a l) (hlen : l.length ≤ 4611686018427387904) (he : ChkIs n l e) :
    Calls Try.prog 46 #[.int .i64 n, .slice a l.length cap] u.val (Ret B W (.int .i64 e)) := by
  have HI := Lib.hid h
  have HF := Lib.hid (c_isFamily u n l a cap h (by omega))
  have HH := Lib.hid (fun (u : Later B W) v => c_has u l v a cap h (by omega)); clear h
  by_cases hf : isFam n l
  case neg =>
    rw [show decide (isFam n l) = false from decide_eq_false hf] at HF
    have e1 := he.1 hf
    subst e1
    clear he hf
    go_enter Try.func46, Try.ntmps46
    go_wp2_with (go_at_call 109; refine HF.out.mono ?_; rintro e _ ⟨rfl, u1, rfl⟩)
    go_ret
    exact Ret.mk _ rfl
  rw [show decide (isFam n l) = true from decide_eq_true hf] at HF
  have h3 : Hid (¬ Good n l → e = 3) := he.2.1 hf
  have h4 : Hid (Good n l → e = 0) := he.2.2 hf
  clear he
  have hn0 := hf.1
  have hn8 := hf.2.1
  have HFam := Lib.hid hf; clear hf
  have HA := Lib.hid (fun (u : Later B W) => c_all u n hn0 hn8)
  by_cases m1 : (0 : Int) ∈ l
  case neg =>
    have e3 : e = 3 := h3.out (fun g => m1 g.1)
    subst e3
    have H0 := Lib.hid (fun u => dcall_f (HH.out u 0) m1)
    clear m1
    go_enter Try.func46, Try.ntmps46
    go_wp2_with (first | (go_at_call 109; refine HF.out.mono ?_; rintro e _ ⟨rfl, u1, rfl⟩) | (go_at_call 75; refine (H0.out _).mono ?_; rintro e _ ⟨rfl, u1, rfl⟩))
    go_ret
    exact Ret.mk _ rfl
  have H0 := Lib.hid (fun u => dcall_t (HH.out u 0) m1)
  have M1 := Lib.hid m1; clear m1
  by_cases m2 : all n ∈ l
  case neg =>
    have e3 : e = 3 := h3.out (fun g => m2 g.2.1)
    subst e3
    have H1 := Lib.hid (fun u => dcall_f (HH.out u (all n)) m2)
    clear m2
    go_enter Try.func46, Try.ntmps46
    go_wp2_with (first | (go_at_call 109; refine HF.out.mono ?_; rintro e _ ⟨rfl, u1, rfl⟩) | (go_at_call 59; refine (HA.out _).mono ?_; rintro e _ ⟨rfl, u1, rfl⟩) | (go_at_call_of 75 (all n); refine (H1.out _).mono ?_; rintro e _ ⟨rfl, u1, rfl⟩) | (go_at_call 75; refine (H0.out _).mono ?_; rintro e _ ⟨rfl, u1, rfl⟩))
    go_ret
    exact Ret.mk _ rfl
  have H1 := Lib.hid (fun u => dcall_t (HH.out u (all n)) m2)
  have M2 := Lib.hid m2; clear m2
  obtain ⟨m, rfl⟩ := Int.eq_ofNat_of_zero_le hn0
  have hb := bit_le m (by omega)
  have HALL : Hid (all (m : Int) = (bit m : Int) - 1) := Lib.hid (by rw [all_nat]; omega)
  go_enter Try.func46, Try.ntmps46
  go_wp2_with (first | (go_at_call 109; refine HF.out.mono ?_; rintro e _ ⟨rfl, u1, rfl⟩) | (go_at_call 59; refine (HA.out _).mono ?_; rintro e _ ⟨rfl, u1, rfl⟩) | (go_at_call_of 75 (all (m : Int)); refine (H1.out _).mono ?_; rintro e _ ⟨rfl, u1, rfl⟩) | (go_at_call 75; refine (H0.out _).mono ?_; rintro e _ ⟨rfl, u1, rfl⟩))
  go_loopw [5] (fun i wr => ∃ (k : Nat) (u : Later B W), k ≤ l.length ∧ i = .int .i64 k ∧ wr = u.val ∧ Hid (seenTo l k)) (fun i _ => l.length - (intOf i).toNat)
  case atStart => exact ⟨0, _, by omega, rfl, rfl, by intro i hi; omega⟩
  case round =>
    obtain ⟨k, u, hk, rfl, rfl, hf⟩ := hrel
    by_cases hlt : k < l.length
    · obtain ⟨s, hs, hs256, hsall, hsm⟩ := fam_nat HFam.out hlt
      have hsb : s < bit m := by have := HALL.out; omega
      obtain ⟨b, off, rfl, hbB, hcell⟩ := HI.out.at hlt
      have c0 : ∀ u : Later B W, u.val.cell? ⟨b, off + k, none⟩ = some (.int .i64 s) := fun u => by rw [← hs]; exact hcell u k hlt
      have HC := Lib.hid hcell
      have Hs := Lib.hid hs; have Hsm := Lib.hid hsm
      clear hs hsm hsall hcell
      go_wp2
      go_loopw [6, 7] (fun o t wr => ∃ (e : Nat) (ok : Bool) (u : Later B W), e ≤ m ∧ t = .int .i64 e ∧ o = .bool ok ∧ wr = u.val ∧ Hid (ok = true ↔ downK l s e)) (fun _ t _ => m - (intOf t).toNat)
      case atStart => exact ⟨0, (s : Int) == 0, u, by omega, rfl, rfl, rfl, Lib.hid (by rw [downK_start]; simp)⟩
      case round =>
        obtain ⟨e', ok, u, he, rfl, rfl, rfl, H5⟩ := hrel
        by_cases h0 : e' < m
        · have hbe := bit_lt e' (by omega)
          have hbc := bit_cast e'
          have HS := Lib.hid (downK_step l s e')
          have HIn := Lib.hid (fun u : Later B W => c_in u s e' (by omega) (by omega))
          have HH2 := Lib.hid (fun u : Later B W => HH.out u ((s : Int) - (bit e' : Int)))
          generalize hq : decide (((s : Int) - (bit e' : Int)) ∈ l) = q at HH2
          have Hq := Lib.hid hq; clear hq
          generalize hq2 : s.testBit e' = q2 at HIn
          have Hq2 := Lib.hid hq2; clear hq2
          cases ok <;> cases q2
          all_goals
            go_wp2
            refine wp_region_later u (by kernel_rfl) (by kernel_rfl) (fun _ => ?_)
            repeat (first | go_big_quiet_step ((first | (go_at_call 21; exact HIn.out _) | (go_at_call 75; exact HH2.out _))) | (refine wpQuiet_step (fun K hK => ?_); go_simp; refine ⟨_, fun _ => rfl, ?_⟩; refine hK _ ?_; clear hK K))
            refine wpQuiet_nil ?_
            intro u
            go_wp2
            go_roundw
            case rel => exact ⟨e' + 1, _, u, by omega, by go_num, rfl, rfl, Lib.hid (by rw [HS.out, ← H5.out, Hq2.out]; simp [← Hq.out])⟩
            case measure => simp [intOf]; omega
        · have H6 : Hid (ok = true ↔ down l s) := Lib.hid (by rw [← downK_end (by omega) hsb, ← show e' = m by omega]; exact H5.out)
          clear H5
          cases ok
          · have e3 : e = 3 := h3.out (fun g => by have := (g.2.2 s Hsm.out).1; have := H6.out.2 this; cases this)
            subst e3
            go_wp2
            go_ret
            exact Ret.mk _ rfl
          · have H7 : Hid (down l s) := H6.out.1 rfl
            clear H6
            go_wp2
            go_loopw [8] (fun i wr => ∃ (p : Nat) (u : Later B W), p ≤ k ∧ i = .int .i64 p ∧ wr = u.val ∧ Hid (∀ j, j < p → ∀ t : Nat, l.getD j 0 = t → ((s ||| t : Nat) : Int) ∈ l)) (fun i _ => k - (intOf i).toNat)
            case atStart => exact ⟨0, u, by omega, rfl, rfl, by intro i hi; omega⟩
            case round =>
              obtain ⟨p, u, hp, rfl, rfl, hj⟩ := hrel
              by_cases hlp : p < k
              · obtain ⟨t, hte, ht256, _, htm⟩ := fam_nat HFam.out (i := p) (by omega)
                have c1 : ∀ u : Later B W, u.val.cell? ⟨b, off + p, none⟩ = some (.int .i64 t) := fun u => by rw [← hte]; exact HC.out u p (by omega)
                have hor := i64_or s t (by omega) (by omega)
                have Ht := Lib.hid hte; have Htm := Lib.hid htm
                clear hte htm
                have HH2 := Lib.hid (fun u : Later B W => HH.out u ((s ||| t : Nat) : Int))
                by_cases hm : ((s ||| t : Nat) : Int) ∈ l
                · rw [show decide (((s ||| t : Nat) : Int) ∈ l) = true from decide_eq_true hm] at HH2
                  have Hm := Lib.hid hm; clear hm
                  go_wp2
                  refine wp_region_later u (by kernel_rfl) (by kernel_rfl) (fun _ => ?_)
                  repeat (first | go_big_quiet_step (((go_at_call 75; exact HH2.out _))) | (refine wpQuiet_step (fun K hK => ?_); go_simp; refine ⟨_, fun _ => rfl, ?_⟩; refine hK _ ?_; clear hK K))
                  refine wpQuiet_nil ?_
                  intro u
                  go_wp2
                  go_roundw
                  case rel => exact ⟨p+1, u, by omega, by go_num, rfl, joins_step hj.out Ht.out Hm.out⟩
                  case measure => simp [intOf]; omega
                · rw [show decide (((s ||| t : Nat) : Int) ∈ l) = false from decide_eq_false hm] at HH2
                  have e3 : e = 3 := h3.out (fun g => hm ((g.2.2 s Hsm.out).2 t Htm.out))
                  subst e3
                  clear hm
                  go_wp2
                  refine wp_region_later u (by kernel_rfl) (by kernel_rfl) (fun _ => ?_)
                  repeat (first | go_big_quiet_step (((go_at_call 75; exact HH2.out _))) | (refine wpQuiet_step (fun K hK => ?_); go_simp; refine ⟨_, fun _ => rfl, ?_⟩; refine hK _ ?_; clear hK K))
                  refine wpQuiet_nil ?_
                  intro u
                  go_wp2
                  go_ret
                  exact Ret.mk _ rfl
              · go_wp2
                go_roundw
                case rel =>
                  have hj' := hj.out
                  rw [show p = k by omega] at hj'
                  exact ⟨k+1, u, by omega, by go_num, rfl, seenTo_step hf.out Hs.out H7.out hj'⟩
                case measure => simp [intOf]; omega
    · go_wp2
      go_ret
      have hf' := hf.out
      rw [show k = l.length by omega] at hf'
      exact Ret.mk u (vint (h4.out (seenTo_good HFam.out M1.out M2.out hf')).symm)

end Go.Proofs.Ytcljgnmlpfddiaa
