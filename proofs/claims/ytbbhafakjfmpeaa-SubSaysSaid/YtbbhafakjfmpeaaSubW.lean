
/-
  rotaref.Slower and sub.Check, the walks.
-/
import Derived.Test.YtbbhafakjfmpeaaSubG
namespace Go.Proofs.Ytbbhafakjfmpeaa
open Go.RowKit
set_option linter.unusedVariables false

theorem isFun.bound {n : Int} {f : List Int} (h : isFun n f) (i : Nat) : -1000 ≤ f.getD i 0 ∧ f.getD i 0 ≤ 1000 := by
  by_cases hi : i < f.length
  · exact h.2.2.2.2 i hi
  · have : f.getD i 0 = 0 := by simp [Nat.le_of_not_lt hi]
    rw [this]; omega

set_option maxRecDepth 100000 in
set_option maxHeartbeats 2000000 in
theorem c_slower {B : Nat} {W : World} (u : Later B W) (n : Int) (f : List Int) (a : Option Addr) (cap : Nat) (e : Int) (h : IntsAt B W a f) (hlen : f.length ≤ 4611686018427387904) (he : SlwIs n f e) :
    Calls Try.prog 4 #[.int .i64 n, .slice a f.length cap] u.val (Ret B W (.int .i64 e)) := by
  have HI := Lib.hid h
  have HF := Lib.hid (c_isFunction u n f a cap h hlen); clear h
  by_cases hf : isFun n f
  case neg =>
    have := he.1 hf
    subst this
    have HF1 := dcall_f HF.out hf
    clear hf HF he
    go_enter Try.func4, Try.ntmps4
    go_wp2_with (go_at_call 8; refine HF1.mono ?_; rintro e _ ⟨rfl, u1, rfl⟩)
    go_ret
    exact Ret.mk _ rfl
  have HF1 := Lib.hid (dcall_t HF.out hf)
  clear HF
  obtain ⟨m, rfl⟩ := Int.eq_ofNat_of_zero_le hf.1
  have hm : m ≤ 8 := by have := hf.2.1; omega
  have hb := bit_le m hm
  have hl := hf.len
  have hl1 : f.length ≤ 256 := by omega
  have hl2 : 1 ≤ f.length := by omega
  have HL := Lib.hid hl
  clear hl
  have h3 : Hid (¬ Slow f → e = 3) := Lib.hid (he.2.1 hf)
  have h0 : Hid (Slow f → e = 0) := Lib.hid (he.2.2 hf)
  have HB := Lib.hid hf.bound
  clear hf he
  obtain ⟨b, off, rfl, hbB, hcell⟩ := HI.out.at (k := 0) (by omega)
  have HC := Lib.hid hcell
  clear hcell
  go_enter Try.func4, Try.ntmps4
  go_wp2_with (go_at_call 8; refine HF1.out.mono ?_; rintro e _ ⟨rfl, u1, rfl⟩)
  go_loopw [5] (fun i wr => ∃ (k : Nat) (u : Later B W), k ≤ f.length ∧ i = .int .i64 k ∧ wr = u.val ∧ Hid (∀ s, s < k → ∀ t, t < s → slowAt f s t)) (fun i _ => f.length - (intOf i).toNat)
  case atStart => exact ⟨0, u1, by omega, rfl, rfl, by intro i hi; omega⟩
  case round =>
    obtain ⟨k, u, hk, rfl, rfl, hf⟩ := hrel
    by_cases hlt : k < f.length
    · go_wp2
      go_loopw [6] (fun i wr => ∃ (t : Nat) (u : Later B W), t ≤ k ∧ i = .int .i64 t ∧ wr = u.val ∧ Hid (∀ t', t' < t → slowAt f k t')) (fun i _ => k - (intOf i).toNat)
      case atStart => exact ⟨0, u, by omega, rfl, rfl, by intro i hi; omega⟩
      case round =>
        obtain ⟨t, u, ht, rfl, rfl, hg⟩ := hrel
        by_cases hlt2 : t < k
        · have hor := i64_or k t (by omega) (by omega)
          have hand := i64_and k t (by omega) (by omega)
          have i1 : k ||| t < f.length := by rw [HL.out] at hlt ⊢; exact or_lt_bit (by omega) (by omega)
          have i2 : k &&& t < f.length := by rw [HL.out] at hlt ⊢; exact and_lt_bit _ (by omega)
          have c0 : ∀ u : Later B W, u.val.cell? ⟨b, off + k, none⟩ = some (.int .i64 (f.getD k 0)) := fun u => HC.out u k hlt
          have c1 : ∀ u : Later B W, u.val.cell? ⟨b, off + t, none⟩ = some (.int .i64 (f.getD t 0)) := fun u => HC.out u t (by omega)
          have c2 : ∀ u : Later B W, u.val.cell? ⟨b, off + (k ||| t), none⟩ = some (.int .i64 (f.getD (k ||| t) 0)) := fun u => HC.out u _ i1
          have c3 : ∀ u : Later B W, u.val.cell? ⟨b, off + (k &&& t), none⟩ = some (.int .i64 (f.getD (k &&& t) 0)) := fun u => HC.out u _ i2
          have b0 := HB.out k; have b1 := HB.out t; have b2 := HB.out (k ||| t); have b3 := HB.out (k &&& t)
          have HS : Hid (slowAt f k t ↔ f.getD (k ||| t) 0 + f.getD (k &&& t) 0 ≤ f.getD k 0 + f.getD t 0) := Lib.hid Iff.rfl
          generalize f.getD k 0 = x at *
          generalize f.getD t 0 = y at *
          generalize f.getD (k ||| t) 0 = z at *
          generalize f.getD (k &&& t) 0 = v at *
          have w1 := IntWalk.i64_in (x + y) (by omega)
          have w2 := IntWalk.i64_in (z + v) (by omega)
          rcases ilt (x + y) (z + v) with ⟨g1, d1⟩ | ⟨g1, d1⟩
          · have e3 : e = 3 := h3.out (fun g => by have := HS.out.1 (g k hlt t hlt2); omega)
            subst e3
            go_wp2
            refine wp_region_later u (by kernel_rfl) (by kernel_rfl) (fun _ => ?_)
            repeat (first | go_big_quiet_step ((fail)) | (refine wpQuiet_step (fun K hK => ?_); go_simp; refine ⟨_, fun _ => rfl, ?_⟩; refine hK _ ?_; clear hK K))
            refine wpQuiet_nil ?_
            intro u
            go_wp2
            go_ret
            exact Ret.mk _ rfl
          · have G1 : Hid (slowAt f k t) := Lib.hid (HS.out.2 g1)
            clear HS
            go_wp2
            refine wp_region_later u (by kernel_rfl) (by kernel_rfl) (fun _ => ?_)
            repeat (first | go_big_quiet_step ((fail)) | (refine wpQuiet_step (fun K hK => ?_); go_simp; refine ⟨_, fun _ => rfl, ?_⟩; refine hK _ ?_; clear hK K))
            refine wpQuiet_nil ?_
            intro u
            go_wp2
            go_roundw
            case rel => exact ⟨t+1, u, by omega, by go_num, rfl, Lib.hid (fun t' ht' => by
              by_cases e : t' = t
              · subst e; exact G1.out
              · exact hg.out t' (by omega))⟩
            case measure => simp [intOf]; omega
        · have hte : Hid (t = k) := Lib.hid (by omega)
          go_wp2
          go_roundw
          case rel => exact ⟨k+1, u, by omega, by go_num, rfl, Lib.hid (fun s hs => by
              by_cases e : s = k
              · subst e; exact fun t' ht' => hg.out t' (by have := hte.out; omega)
              · exact hf.out s (by omega))⟩
          case measure => simp [intOf]; omega
    · have e0 : e = 0 := h0.out (fun s hs t ht => hf.out s (by omega) t ht)
      subst e0
      go_wp2
      go_ret
      exact Ret.mk _ rfl

set_option maxRecDepth 100000 in
set_option maxHeartbeats 2000000 in
theorem c_subCheck {B : Nat} {W : World} (u : Later B W) (n : Int) (f : List Int) (a : Option Addr) (cap : Nat) (e : Int) (h : IntsAt B W a f) (hlen : f.length ≤ 4611686018427387904) (he : SlwIs n f e) :
    Calls Try.prog 13 #[.int .i64 n, .slice a f.length cap] u.val (Ret B W (.int .i64 e)) := by
  have HI := Lib.hid h
  have HF := Lib.hid (c_form u n f a cap h hlen); clear h
  by_cases hf : isFun n f
  case neg =>
    have := he.1 hf
    subst this
    rw [← errno_bad hf] at HF
    clear hf he
    go_enter Try.func13, Try.ntmps13
    go_wp2_with (go_at_call 17; refine HF.out.mono ?_; rintro e _ ⟨rfl, u1, rfl⟩)
    go_ret
    exact Ret.mk _ rfl
  rw [← errno_ok hf] at HF
  obtain ⟨m, rfl⟩ := Int.eq_ofNat_of_zero_le hf.1
  have hm : m ≤ 8 := by have := hf.2.1; omega
  have hb := bit_le m hm
  have hl := hf.len
  have hl1 : f.length ≤ 256 := by omega
  have hl2 : 1 ≤ f.length := by omega
  have HL := Lib.hid hl
  have h3 : Hid (¬ Local f m → e = 3) := Lib.hid (fun g => he.2.1 hf (fun x => g ((slow_iff hf).1 x)))
  have h0 : Hid (Local f m → e = 0) := Lib.hid (fun g => he.2.2 hf ((slow_iff hf).2 g))
  have HB := Lib.hid hf.bound
  clear hf he hl
  obtain ⟨b, off, rfl, hbB, hcell⟩ := HI.out.at (k := 0) (by omega)
  have HC := Lib.hid hcell
  clear hcell
  go_enter Try.func13, Try.ntmps13
  go_wp2_with (go_at_call 17; refine HF.out.mono ?_; rintro e _ ⟨rfl, u1, rfl⟩)
  go_loopw [19] (fun i wr => ∃ (k : Nat) (u : Later B W), k ≤ f.length ∧ i = .int .i64 k ∧ wr = u.val ∧ Hid (∀ s, s < k → ∀ i, i < m → ∀ k, k < i → locAt f s i k)) (fun i _ => f.length - (intOf i).toNat)
  case atStart => exact ⟨0, u1, by omega, rfl, rfl, by intro i hi; omega⟩
  case round =>
    obtain ⟨s, u, hk, rfl, rfl, hf⟩ := hrel
    by_cases hlt : s < f.length
    · go_wp2
      go_loopw [23] (fun i wr => ∃ (t : Nat) (u : Later B W), t ≤ m ∧ i = .int .i64 t ∧ wr = u.val ∧ Hid (∀ i, i < t → ∀ k, k < i → locAt f s i k)) (fun i _ => m - (intOf i).toNat)
      case atStart => exact ⟨0, u, by omega, rfl, rfl, by intro i hi; omega⟩
      case round =>
        obtain ⟨i, u, hi, rfl, rfl, hg⟩ := hrel
        by_cases hlt2 : i < m
        · go_wp2
          go_loopw [27] (fun t wr => ∃ (k : Nat) (u : Later B W), k ≤ i ∧ t = .int .i64 k ∧ wr = u.val ∧ Hid (∀ k', k' < k → locAt f s i k')) (fun t _ => i - (intOf t).toNat)
          case atStart => exact ⟨0, u, by omega, rfl, rfl, by intro i hi; omega⟩
          case round =>
            obtain ⟨k, u, hk, rfl, rfl, hh⟩ := hrel
            by_cases hlt3 : k < i
            · have bi := bit_lt i (by omega)
              have bk := bit_lt k (by omega)
              have hci := bit_cast i
              have hck := bit_cast k
              have hor1 := i64_or (bit i) (bit k) (by omega) (by omega)
              have hbb : Hid (bit i < bit m ∧ bit k < bit m ∧ s < bit m) := Lib.hid ⟨bit_lt_bit hlt2, bit_lt_bit (by omega), by have := HL.out; omega⟩
              have hbo : bit i ||| bit k < 256 := or_lt _ _ (by omega) (by omega)
              have hand := i64_and s (bit i ||| bit k) (by omega) (by omega)
              by_cases hz : s &&& (bit i ||| bit k) = 0
              · have hz' : s.testBit i = false ∧ s.testBit k = false := by
                  rw [Nat.and_comm, and_eq_zero_iff] at hz
                  exact ⟨hz i (by simp [testBit_bit]), hz k (by simp [testBit_bit])⟩
                rw [hz] at hand
                have hZ := Lib.hid hz'
                clear hz hz'
                have i1 : s ||| bit i < f.length := by rw [HL.out]; exact or_lt_bit hbb.out.2.2 hbb.out.1
                have i2 : s ||| bit k < f.length := by rw [HL.out]; exact or_lt_bit hbb.out.2.2 hbb.out.2.1
                have i3 : s ||| bit i ||| bit k < f.length := by rw [HL.out]; exact or_lt_bit (or_lt_bit hbb.out.2.2 hbb.out.1) hbb.out.2.1
                have hor2 := i64_or s (bit i) (by omega) (by omega)
                have hor3 := i64_or s (bit k) (by omega) (by omega)
                have hor4 := i64_or (s ||| bit i) (bit k) (by omega) (by omega)
                have c0 : ∀ u : Later B W, u.val.cell? ⟨b, off + s, none⟩ = some (.int .i64 (f.getD s 0)) := fun u => HC.out u s hlt
                have c1 : ∀ u : Later B W, u.val.cell? ⟨b, off + (s ||| bit i), none⟩ = some (.int .i64 (f.getD (s ||| bit i) 0)) := fun u => HC.out u _ i1
                have c2 : ∀ u : Later B W, u.val.cell? ⟨b, off + (s ||| bit k), none⟩ = some (.int .i64 (f.getD (s ||| bit k) 0)) := fun u => HC.out u _ i2
                have c3 : ∀ u : Later B W, u.val.cell? ⟨b, off + (s ||| bit i ||| bit k), none⟩ = some (.int .i64 (f.getD (s ||| bit i ||| bit k) 0)) := fun u => HC.out u _ i3
                have b0 := HB.out s; have b1 := HB.out (s ||| bit i); have b2 := HB.out (s ||| bit k); have b3 := HB.out (s ||| bit i ||| bit k)
                have HS : Hid (locAt f s i k ↔ f.getD (s ||| bit i ||| bit k) 0 + f.getD s 0 ≤ f.getD (s ||| bit i) 0 + f.getD (s ||| bit k) 0) := Lib.hid ⟨fun g => g hZ.out.1 hZ.out.2, fun g _ _ => g⟩
                generalize f.getD s 0 = x at *
                generalize f.getD (s ||| bit i) 0 = y at *
                generalize f.getD (s ||| bit k) 0 = z at *
                generalize f.getD (s ||| bit i ||| bit k) 0 = v at *
                have w1 := IntWalk.i64_in (y + z) (by omega)
                have w2 := IntWalk.i64_in (v + x) (by omega)
                rcases ilt (y + z) (v + x) with ⟨g1, d1⟩ | ⟨g1, d1⟩
                · have e3 : e = 3 := h3.out (fun g => by have := HS.out.1 (g s hlt i hlt2 k hlt3); omega)
                  subst e3
                  go_wp2
                  refine wp_region_later u (by kernel_rfl) (by kernel_rfl) (fun _ => ?_)
                  repeat (first | go_big_quiet_step ((fail)) | (refine wpQuiet_step (fun K hK => ?_); go_simp; refine ⟨_, fun _ => rfl, ?_⟩; refine hK _ ?_; clear hK K))
                  refine wpQuiet_nil ?_
                  intro u
                  go_wp2
                  refine wp_region_later u (by kernel_rfl) (by kernel_rfl) (fun _ => ?_)
                  repeat (first | go_big_quiet_step ((fail)) | (refine wpQuiet_step (fun K hK => ?_); go_simp; refine ⟨_, fun _ => rfl, ?_⟩; refine hK _ ?_; clear hK K))
                  refine wpQuiet_nil ?_
                  intro u
                  go_wp2
                  go_ret
                  exact Ret.mk _ rfl
                · have G1 : Hid (locAt f s i k) := Lib.hid (HS.out.2 g1)
                  clear HS
                  go_wp2
                  refine wp_region_later u (by kernel_rfl) (by kernel_rfl) (fun _ => ?_)
                  repeat (first | go_big_quiet_step ((fail)) | (refine wpQuiet_step (fun K hK => ?_); go_simp; refine ⟨_, fun _ => rfl, ?_⟩; refine hK _ ?_; clear hK K))
                  refine wpQuiet_nil ?_
                  intro u
                  go_wp2
                  refine wp_region_later u (by kernel_rfl) (by kernel_rfl) (fun _ => ?_)
                  repeat (first | go_big_quiet_step ((fail)) | (refine wpQuiet_step (fun K hK => ?_); go_simp; refine ⟨_, fun _ => rfl, ?_⟩; refine hK _ ?_; clear hK K))
                  refine wpQuiet_nil ?_
                  intro u
                  go_wp2
                  go_roundw
                  case rel => exact ⟨k+1, u, by omega, by go_num, rfl, Lib.hid (fun t' ht' => by
                    by_cases e : t' = k
                    · subst e; exact G1.out
                    · exact hh.out t' (by omega))⟩
                  case measure => simp [intOf]; omega
              · have G1 : Hid (locAt f s i k) := Lib.hid (fun h1 h2 => by
                  exfalso; apply hz
                  rw [Nat.and_comm, and_eq_zero_iff]
                  intro j hj
                  rw [Nat.testBit_or, testBit_bit, testBit_bit] at hj
                  by_cases c1 : i = j
                  · subst c1; exact h1
                  · by_cases c2 : k = j
                    · subst c2; exact h2
                    · simp [c1, c2] at hj)
                have dz : (((s &&& (bit i ||| bit k) : Nat) : Int) == 0) = false := beq_eq_false_iff_ne.2 (by omega)
                clear hz
                go_wp2
                refine wp_region_later u (by kernel_rfl) (by kernel_rfl) (fun _ => ?_)
                repeat (first | go_big_quiet_step ((fail)) | (refine wpQuiet_step (fun K hK => ?_); go_simp; refine ⟨_, fun _ => rfl, ?_⟩; refine hK _ ?_; clear hK K))
                refine wpQuiet_nil ?_
                intro u
                go_wp2
                refine wp_region_later u (by kernel_rfl) (by kernel_rfl) (fun _ => ?_)
                repeat (first | go_big_quiet_step ((fail)) | (refine wpQuiet_step (fun K hK => ?_); go_simp; refine ⟨_, fun _ => rfl, ?_⟩; refine hK _ ?_; clear hK K))
                refine wpQuiet_nil ?_
                intro u
                go_wp2
                go_roundw
                case rel => exact ⟨k+1, u, by omega, by go_num, rfl, Lib.hid (fun t' ht' => by
                    by_cases e : t' = k
                    · subst e; exact G1.out
                    · exact hh.out t' (by omega))⟩
                case measure => simp [intOf]; omega
            · have hte : Hid (k = i) := Lib.hid (by omega)
              go_wp2
              go_roundw
              case rel => exact ⟨i+1, u, by omega, by go_num, rfl, Lib.hid (fun j hj => by
                by_cases e : j = i
                · subst e; exact fun t' ht' => hh.out t' (by have := hte.out; omega)
                · exact hg.out j (by omega))⟩
              case measure => simp [intOf]; omega
        · have hte : Hid (i = m) := Lib.hid (by omega)
          go_wp2
          go_roundw
          case rel => exact ⟨s+1, u, by omega, by go_num, rfl, Lib.hid (fun j hj => by
            by_cases e : j = s
            · subst e; exact fun t' ht' => hg.out t' (by have := hte.out; omega)
            · exact hf.out j (by omega))⟩
          case measure => simp [intOf]; omega
    · have e0 : e = 0 := h0.out (fun s hs => hf.out s (by omega))
      subst e0
      go_wp2
      go_ret
      exact Ret.mk _ rfl

end Go.Proofs.Ytbbhafakjfmpeaa
