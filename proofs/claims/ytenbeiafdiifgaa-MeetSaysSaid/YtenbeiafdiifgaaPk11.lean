
/-
  axioms.Check.
  The ranks of a matroid are a rank function, plainly.
-/
import Derived.Test.YtenbeiafdiifgaaPk10
import Derived.Test.YtenbeiafdiifgaaPk05
namespace Go.Proofs.Ytenbeiafdiifgaa
open Go.RowKit
set_option linter.unusedVariables false

def toN (l : List Int) : List Nat := l.map Int.toNat
theorem toN_len (l : List Int) : (toN l).length = l.length := by simp [toN]
theorem toN_getD (l : List Int) (i : Nat) : (toN l).getD i 0 = (l.getD i 0).toNat := by
  unfold toN
  by_cases h : i < l.length
  · simp [h]
  · simp [h]
theorem ints_toN {l : List Int} (h : ∀ i, i < l.length → 0 ≤ l.getD i 0) : ints (toN l) = l := by
  apply List.ext_getElem
  · simp [ints, toN]
  · intro i h1 h2
    have := h i h2
    simp [h2] at this
    simp [ints, toN]
    omega
theorem fam_ints {n : Int} {l : List Int} (h : isFam n l) : ints (toN l) = l := ints_toN (fun i hi => (h.2.2 i hi).1)
theorem fam_lt {n : Int} {l : List Int} (h : isFam n l) : ∀ b, b ∈ toN l → b < bit n.toNat := by
  intro b hb
  obtain ⟨i, hi, e⟩ := List.getElem_of_mem hb
  have hi' : i < l.length := by rw [toN_len] at hi; exact hi
  have h1 := h.2.2 i hi'
  have h2 : b = (l.getD i 0).toNat := by rw [← toN_getD, ← e]; simp [hi]
  have h3 := bit_le n.toNat (by have := h.2.1; omega)
  have h4 : all n = ((bit n.toNat - 1 : Nat) : Int) := rfl
  rw [h4] at h1
  omega
/-- a family of sets of one size, not none -/
def okM (n : Int) (l : List Int) : Prop := isFam n l ∧ l ≠ [] ∧ ∀ i, i < (toN l).length → sz ((toN l).getD i 0) = sz ((toN l).getD 0 0)
/-- what the check of a matroid answers -/
def MatIs (n : Int) (l : List Int) (e : Int) : Prop := (¬ okM n l → e = 1) ∧ (okM n l → ¬ Exch (toN l) → e = 3) ∧ (okM n l → Exch (toN l) → e = 0)
theorem MatIs.ex (n : Int) (l : List Int) : ∃ e, MatIs n l e := by
  by_cases h : okM n l
  · by_cases g : Exch (toN l)
    · exact ⟨0, fun x => absurd h x, fun _ x => absurd g x, fun _ _ => rfl⟩
    · exact ⟨3, fun x => absurd h x, fun _ _ => rfl, fun _ x => absurd x g⟩
  · exact ⟨1, fun _ => rfl, fun x => absurd x h, fun x => absurd x h⟩
theorem exch_getD {L : List Nat} : Exch L ↔ ∀ i, i < L.length → ∀ j, j < L.length → exP L (L.getD i 0) (L.getD j 0) := by
  constructor
  · intro h i hi j hj
    have h1 : L.getD i 0 ∈ L := by simp [hi]
    have h2 : L.getD j 0 ∈ L := by simp [hj]
    exact h _ h1 _ h2
  · intro h A hA B hB
    obtain ⟨i, hi, e1⟩ := List.getElem_of_mem hA
    obtain ⟨j, hj, e2⟩ := List.getElem_of_mem hB
    have := h i hi j hj
    have e3 : L.getD i 0 = A := by simp [hi, e1]
    have e4 : L.getD j 0 = B := by simp [hj, e2]
    rw [e3, e4] at this
    exact this
theorem okM.fam8 {n : Int} {l : List Int} (h : okM n l) : Fam8 (toN l) (sz ((toN l).getD 0 0)) where
  lt := fun b hb => by
    have := fam_lt h.1 b hb
    have h3 := bit_le n.toNat (by have := h.1.2.1; omega)
    omega
  eq := fun b hb => by
    obtain ⟨i, hi, e⟩ := List.getElem_of_mem hb
    have := h.2.2 i hi
    have e3 : (toN l).getD i 0 = b := by simp [hi, e]
    rw [e3] at this
    exact this

set_option maxRecDepth 100000 in
set_option maxHeartbeats 8000000 in
theorem c_axCheck {B : Nat} {W : World} (u : Later B W) (n : Int) (l : List Int) (a : Option Addr) (cap : Nat) (e : Int) (h : IntsAt B W a l) (hlen : l.length ≤ 4611686018427387904) (he : MatIs n l e) :
    Calls Try.prog 33 #[.agg #[.int .i64 n, .slice a l.length cap]] u.val (Ret B W (.int .i64 e)) := by
  have T0 : Hid (Two (u.val.alloc (.cells #[.int .i64 n, .slice a l.length cap] 24)) u.val.heap.size 24 (.int .i64 n) (.slice a l.length cap)) := Lib.hid (Two.new _ _ _ _)
  have HI : Hid (IntsAt (u.val.alloc (.cells #[.int .i64 n, .slice a l.length cap] 24)).heap.size (u.val.alloc (.cells #[.int .i64 n, .slice a l.length cap] 24)) a l) := Lib.hid (h.to (u.alloc _))
  have hrr : u.val.heap.size < (u.val.alloc (.cells #[.int .i64 n, .slice a l.length cap] 24)).heap.size := by simp
  have HV : Hid (∀ v : Later (u.val.alloc (.cells #[.int .i64 n, .slice a l.length cap] 24)).heap.size (u.val.alloc (.cells #[.int .i64 n, .slice a l.length cap] 24)), ∃ w : Later B W, w.val = v.val) := Lib.hid (fun v => ⟨(u.alloc _).up v, rfl⟩)
  have q0 : ∀ w : Later (u.val.alloc (.cells #[.int .i64 n, .slice a l.length cap] 24)).heap.size (u.val.alloc (.cells #[.int .i64 n, .slice a l.length cap] 24)), w.val.cell? ⟨u.val.heap.size, 0, none⟩ = some (.int .i64 n) := fun w => (T0.out.keep w.below).c0
  have q1 : ∀ w : Later (u.val.alloc (.cells #[.int .i64 n, .slice a l.length cap] 24)).heap.size (u.val.alloc (.cells #[.int .i64 n, .slice a l.length cap] 24)), w.val.cell? ⟨u.val.heap.size, 1, none⟩ = some (.slice a l.length cap) := fun w => (T0.out.keep w.below).c1
  have KF : Hid (∀ x : Int, x = errno (decide (isFam n l)) 1 → Calls Try.prog 40 #[.int .i64 n, .slice a l.length cap] (u.val.alloc (.cells #[.int .i64 n, .slice a l.length cap] 24)) (Ret (u.val.alloc (.cells #[.int .i64 n, .slice a l.length cap] 24)).heap.size (u.val.alloc (.cells #[.int .i64 n, .slice a l.length cap] 24)) (.int .i64 x))) := Lib.hid (fun x hx => by subst hx; exact c_family (Later.self _) n l a cap (h.to (u.alloc _)) (by omega))
  clear h T0
  by_cases hf : isFam n l
  case neg =>
    have K1 := Lib.hid (KF.out 1 (by simp [errno, hf]))
    have h1 := he.1 (fun h => hf h.1)
    subst h1
    clear hf he KF
    go_enter Try.func33, Try.ntmps33
    go_wp2_with (first | (go_at_call 40; refine (K1.out).mono ?_; rintro e _ ⟨rfl, v1, rfl⟩))
    go_ret
    exact Ret.of (HV.out v1) rfl
  have K1 := Lib.hid (KF.out 0 (by simp [errno, hf])); clear KF
  by_cases h0 : 0 < l.length
  case neg =>
    have hl0 : l = [] := List.length_eq_zero_iff.1 (by omega)
    have h1 := he.1 (fun h => h.2.1 hl0)
    subst h1 hl0
    clear hf he h0
    go_enter Try.func33, Try.ntmps33
    go_wp2_with (first | (go_at_call 40; refine (K1.out).mono ?_; rintro e _ ⟨rfl, v1, rfl⟩))
    go_ret
    exact Ret.of (HV.out v1) rfl
  have z1 : ((l.length : Int) == 0) = false := by rw [beq_eq_false_iff_ne]; omega
  have HOk : Hid (okM n l ↔ ∀ i, i < l.length → sz (l.getD i 0).toNat = sz (l.getD 0 0).toNat) := Lib.hid (by
    unfold okM
    constructor
    · intro h i hi
      have := h.2.2 i (by rw [toN_len]; exact hi)
      rwa [toN_getD, toN_getD] at this
    · intro h
      refine ⟨hf, (by rintro rfl; simp at h0), fun i hi => ?_⟩
      rw [toN_len] at hi
      rw [toN_getD, toN_getD]
      exact h i hi)
  have HF := Lib.hid hf; have HE := Lib.hid he
  clear hf he
  have HN : Hid (∀ i, i < l.length → ∃ s : Nat, l.getD i 0 = s ∧ s < 256) := Lib.hid (fun i hi => by
    have h1 := HF.out.2.2 i hi
    have h2 := all_le n HF.out.2.1
    exact ⟨(l.getD i 0).toNat, by omega, by omega⟩)
  obtain ⟨x0, hx0, hx08⟩ := HN.out 0 h0
  obtain ⟨b, off, rfl, hbB, hcell⟩ := HI.out.at (k := 0) h0
  have HC := Lib.hid hcell
  have c00 := fun v => hcell v 0 h0
  rw [hx0] at c00
  simp only [Nat.add_zero] at c00
  have HX0 := Lib.hid hx0
  clear hcell hx0
  go_enter Try.func33, Try.ntmps33
  go_wp2_with (first | (go_at_call 40; refine (K1.out).mono ?_; rintro e _ ⟨rfl, v1, rfl⟩))
  clear K1 z1
  generalize hr2 : u.val.heap.size = g at *
  generalize u.val.alloc (.cells #[.int .i64 n, .slice (some ⟨b, off, none⟩) l.length cap] 24) = W1 at *
  clear hr2 u
  have HS0 := Lib.hid (fun v : Later W1.heap.size W1 => c_size_axioms v x0 hx08)
  go_loopw [24] (fun i wr => ∃ (k : Nat) (v : Later W1.heap.size W1), k ≤ l.length ∧ i = .int .i64 k ∧ wr = v.val ∧ Hid (∀ i, i < k → sz (l.getD i 0).toNat = sz (l.getD 0 0).toNat)) (fun i _ => l.length - (intOf i).toNat)
  case atStart => exact ⟨0, v1, by omega, rfl, rfl, Lib.hid (fun i hi => by omega)⟩
  case round =>
    clear v1
    obtain ⟨k, v1, hk, rfl, rfl, hfk⟩ := hrel
    by_cases hlt : k < l.length
    · obtain ⟨x, hx, hx8⟩ := HN.out k hlt
      have c0 := HC.out v1 k hlt
      rw [hx] at c0
      have HS1 := Lib.hid (fun v : Later W1.heap.size W1 => c_size_axioms v x hx8)
      have HX := Lib.hid hx
      clear hx
      have hsx := sz_le x
      have hs0 := sz_le x0
      by_cases hq : sz x = sz x0
      · have HQ := Lib.hid hq
        have hn : Hid (∀ i, i < k + 1 → sz (l.getD i 0).toNat = sz (l.getD 0 0).toNat) := Lib.hid (fun i hi => by
          by_cases c : i = k
          · subst c; rw [HX.out, HX0.out]; exact HQ.out
          · exact hfk.out i (by omega))
        rw [hq] at HS1
        clear hq
        go_wp2
        refine wp_region_later v1 (by kernel_rfl) (by kernel_rfl) (fun _ => ?_)
        repeat (first | go_big_quiet_step ((first | (go_at_call 41; exact HS1.out _) | (go_at_call 41; exact HS0.out _))) | (refine wpQuiet_step (fun K hK => ?_); go_simp; refine ⟨_, fun _ => rfl, ?_⟩; refine hK _ ?_; clear hK K))
        refine wpQuiet_nil ?_
        intro v1
        go_wp2
        go_roundw
        case rel => exact ⟨k+1, v1, by omega, by go_num, rfl, hn⟩
        case measure => simp [intOf]; omega
      · have he1 : e = 1 := HE.out.1 (fun h => hq (by have := HOk.out.1 h k hlt; rw [HX.out, HX0.out] at this; exact this))
        subst he1
        have d1 : (((sz x : Nat) : Int) != ((sz x0 : Nat) : Int)) = true := by rw [bne_iff_ne]; omega
        have d2 : ((sz x) != (sz x0)) = true := by rw [bne_iff_ne]; omega
        clear hq
        generalize sz x = p at *
        generalize sz x0 = p0 at *
        go_wp2
        refine wp_region_later v1 (by kernel_rfl) (by kernel_rfl) (fun _ => ?_)
        repeat (first | go_big_quiet_step ((first | (go_at_call 41; exact HS1.out _) | (go_at_call 41; exact HS0.out _))) | (refine wpQuiet_step (fun K hK => ?_); go_simp; refine ⟨_, fun _ => rfl, ?_⟩; refine hK _ ?_; clear hK K))
        refine wpQuiet_nil ?_
        intro v1
        go_wp2
        go_ret
        exact Ret.of (HV.out v1) rfl
    · have hok : Hid (okM n l) := Lib.hid (HOk.out.2 (fun i hi => hfk.out i (by omega)))
      have HInt := Lib.hid (fam_ints HF.out)
      have hrs : rising l := HF.out.2.2.rising
      have HRs : Hid (rising (ints (toN l))) := Lib.hid (by rw [HInt.out]; exact hrs)
      have HLl : Hid ((ints (toN l)).length = l.length) := Lib.hid (by rw [HInt.out])
      have KE : Hid (∀ (v : Later W1.heap.size W1) (A Bb : Nat) (r : Bool), A < 256 → Bb < 256 → (r = true ↔ exP (toN l) A Bb) → Calls Try.prog 42 #[.agg #[.int .i64 n, .slice (some ⟨b, off, none⟩) l.length cap], .int .i64 A, .int .i64 Bb] v.val (Ret W1.heap.size W1 (.bool r))) := Lib.hid (fun v A Bb r hA hB hr => by
        have := c_exchange v n (toN l) (some ⟨b, off, none⟩) cap A Bb r (by rw [HInt.out]; exact HI.out) (by rw [HInt.out]; exact hlen) HRs.out hA hB hr
        rwa [HInt.out] at this)
      have HEx : Hid (Exch (toN l) ↔ ∀ i, i < l.length → ∀ j, j < l.length → exP (toN l) (l.getD i 0).toNat (l.getD j 0).toNat) := Lib.hid (by
        rw [exch_getD, toN_len]
        constructor <;> intro h i hi j hj <;> have := h i hi j hj <;> simpa only [toN_getD] using this)
      clear hrs hfk
      go_wp2
      go_loopw [40] (fun i wr => ∃ (k : Nat) (v : Later W1.heap.size W1), k ≤ l.length ∧ i = .int .i64 k ∧ wr = v.val ∧ Hid (∀ i, i < k → ∀ j, j < l.length → exP (toN l) (l.getD i 0).toNat (l.getD j 0).toNat)) (fun i _ => l.length - (intOf i).toNat)
      case atStart => exact ⟨0, v1, by omega, rfl, rfl, Lib.hid (fun i hi => by omega)⟩
      case round =>
        clear v1
        obtain ⟨k2, v1, hk2, rfl, rfl, hfk⟩ := hrel
        by_cases hlt3 : k2 < l.length
        · obtain ⟨x, hx, hx8⟩ := HN.out k2 hlt3
          have c0 := HC.out v1 k2 hlt3
          rw [hx] at c0
          have HX := Lib.hid hx
          clear hx
          go_wp2
          go_loopw [47] (fun i wr => ∃ (j : Nat) (v : Later W1.heap.size W1), j ≤ l.length ∧ i = .int .i64 j ∧ wr = v.val ∧ Hid (∀ i, i < j → exP (toN l) x (l.getD i 0).toNat)) (fun i _ => l.length - (intOf i).toNat)
          case atStart => exact ⟨0, v1, by omega, rfl, rfl, Lib.hid (fun i hi => by omega)⟩
          case round =>
            clear v1 c0
            obtain ⟨j, v1, hj, rfl, rfl, hfj⟩ := hrel
            by_cases hlt2 : j < l.length
            · obtain ⟨z, hz, hz8⟩ := HN.out j hlt2
              have c1 := HC.out v1 j hlt2
              rw [hz] at c1
              have HZ := Lib.hid hz
              clear hz
              by_cases hex : exP (toN l) x z
              · have K2 := Lib.hid (fun v => KE.out v x z true hx8 hz8 (by simp [hex]))
                have hn : Hid (∀ i, i < j + 1 → exP (toN l) x (l.getD i 0).toNat) := Lib.hid (fun i hi => by
                  by_cases c : i = j
                  · subst c; rw [HZ.out]; exact hex
                  · exact hfj.out i (by omega))
                clear hex
                go_wp2_with (first | (go_at_call 42; refine (K2.out _).mono ?_; rintro e _ ⟨rfl, v2, rfl⟩))
                go_roundw
                case rel => exact ⟨j+1, v2, by omega, by go_num, rfl, hn⟩
                case measure => simp [intOf]; omega
              · have K2 := Lib.hid (fun v => KE.out v x z false hx8 hz8 (by simp [hex]))
                have he3 : e = 3 := HE.out.2.1 hok.out (fun h => hex (by have := HEx.out.1 h k2 hlt3 j hlt2; rw [HX.out, HZ.out] at this; exact this))
                subst he3
                clear hex
                go_wp2_with (first | (go_at_call 42; refine (K2.out _).mono ?_; rintro e _ ⟨rfl, v2, rfl⟩))
                go_ret
                exact Ret.of (HV.out v2) rfl
            · have hn : Hid (∀ i, i < k2 + 1 → ∀ j, j < l.length → exP (toN l) (l.getD i 0).toNat (l.getD j 0).toNat) := Lib.hid (fun i hi j' hj' => by
                by_cases c : i = k2
                · subst c; rw [HX.out]; exact hfj.out j' (by omega)
                · exact hfk.out i (by omega) j' hj')
              go_wp2
              go_roundw
              case rel => exact ⟨k2+1, v1, by omega, by go_num, rfl, hn⟩
              case measure => simp [intOf]; omega
        · have he0 : e = 0 := HE.out.2.2 hok.out (HEx.out.2 (fun i hi => hfk.out i (by omega)))
          subst he0
          go_wp2
          go_ret
          exact Ret.of (HV.out v1) rfl

end Go.Proofs.Ytenbeiafdiifgaa

namespace Go.Proofs.Ytenbeiafdiifgaa
set_option linter.unusedVariables false

theorem rkM_of_sub {L : List Nat} {m : Nat} (hm : m ≤ 8) (hne : L ≠ []) (hS : SubM m (rk L)) : RkM m (rk L) where
  n8 := hm
  zero := by have := rk_le L 0; rw [sz_zero] at this; omega
  step := fun s i hs hi => ⟨rk_mono hne (sub_or_left _ _), rk_step hne s i (by omega)⟩
  clos := fun s u i hs hu hi hsu h => by
    have key : ∀ k, k ≤ m → rk L ((s ||| upM u k) ||| bit i) = rk L (s ||| upM u k) := by
      intro k
      induction k with
      | zero => intro _; rw [upM_zero, Nat.or_zero]; exact h
      | succ k ih =>
        intro hk
        have ih' := ih (by omega)
        cases hb : u.testBit k
        · rw [upM_no hb]; exact ih'
        · rw [upM_yes hb, ← Nat.or_assoc]
          generalize hv : s ||| upM u k = v at ih' ⊢
          have hvl : v < bit m := by rw [← hv]; exact orM_lt hs (upM_lt hu)
          have h1 := hS v hvl i hi k (by omega)
          have h2 : rk L v ≤ rk L ((v ||| bit i) &&& (v ||| bit k)) := rk_mono hne (fun q hq => by rw [Nat.testBit_and, Nat.testBit_or, Nat.testBit_or, hq]; rfl)
          have h3 : (v ||| bit i) ||| (v ||| bit k) = v ||| bit k ||| bit i := by
            apply Nat.eq_of_testBit_eq; intro q; simp only [Nat.testBit_or]; cases v.testBit q <;> cases (bit i).testBit q <;> simp
          have h4 : rk L (v ||| bit k) ≤ rk L (v ||| bit k ||| bit i) := rk_mono hne (sub_or_left _ _)
          rw [h3] at h1
          omega
    have h5 := key m (Nat.le_refl _)
    rw [upM_all hu] at h5
    have h6 : s ||| u = u := by
      apply Nat.eq_of_testBit_eq; intro q
      rw [Nat.testBit_or]
      cases c : s.testBit q
      · simp
      · rw [hsu q c]; rfl
    rwa [h6] at h5

theorem toN_ne {l : List Int} (h : l ≠ []) : toN l ≠ [] := by
  intro e
  apply h
  cases l with
  | nil => rfl
  | cons a t => cases e

theorem rkM_of_mat {m : Nat} {l : List Int} (h : okM (m : Int) l) (hE : Exch (toN l)) : RkM m (rk (toN l)) := by
  have hm : m ≤ 8 := by have := h.1.2.1; omega
  exact rkM_of_sub hm (toN_ne h.2.1) (sub_of_exch hm (toN_ne h.2.1) h.fam8 hE)
theorem MatIs.ok {n : Int} {l : List Int} (h : MatIs n l 0) : okM n l ∧ Exch (toN l) := by
  by_cases c : okM n l
  · refine ⟨c, ?_⟩
    apply Classical.byContradiction
    intro g
    exact absurd (h.2.1 c g) (by decide)
  · exact absurd (h.1 c) (by decide)
end Go.Proofs.Ytenbeiafdiifgaa
