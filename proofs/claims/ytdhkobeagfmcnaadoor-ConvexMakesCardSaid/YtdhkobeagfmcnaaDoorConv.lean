
/-
  convex.Check and rotaref.Antimatroid: both say the same of a family (ChkIs): 1, it is no family; 3, it is no antimatroid; 0.
-/
import Derived.Test.YtdhkobeagfmcnaaDoorFam2
import Derived.Test.YtdhkobeagfmcnaaDoorBits
namespace Go.Proofs.YtdhkobeagfmcnaaDoor
open Go.RowKit
set_option linter.unusedVariables false

/-- a number of a family is a set -/
theorem fam_nat {n : Int} {l : List Int} (h : isFam n l) {i : Nat} (hi : i < l.length) : ∃ s : Nat, l.getD i 0 = s ∧ s < 256 ∧ (s : Int) ≤ all n ∧ (s : Int) ∈ l := by
  obtain ⟨h0, h1, _⟩ := h.2.2 i hi
  have := (all_le n h.2.1).2
  refine ⟨(l.getD i 0).toNat, by omega, by omega, by omega, ?_⟩
  rw [Int.toNat_of_nonneg h0]
  simp [hi]
theorem mem_idx {l : List Int} {x : Int} (h : x ∈ l) : ∃ i, i < l.length ∧ l.getD i 0 = x := by
  obtain ⟨i, hi, e⟩ := List.getElem_of_mem h
  exact ⟨i, hi, by simp [hi, e]⟩
theorem fam_mem {n : Int} {l : List Int} (h : isFam n l) {x : Int} (hx : x ∈ l) : 0 ≤ x ∧ x ≤ all n := by
  obtain ⟨i, hi, e⟩ := mem_idx hx
  have := h.2.2 i hi
  rw [e] at this
  exact ⟨this.1, this.2.1⟩

def down (l : List Int) (s : Nat) : Prop := s = 0 ∨ ∃ e, e < 8 ∧ s.testBit e = true ∧ ((s - bit e : Nat) : Int) ∈ l
def joinsAt (l : List Int) (s : Nat) : Prop := ∀ t : Nat, (t : Int) ∈ l → ((s ||| t : Nat) : Int) ∈ l
def Good (n : Int) (l : List Int) : Prop := (0 : Int) ∈ l ∧ all n ∈ l ∧ ∀ s : Nat, (s : Int) ∈ l → down l s ∧ joinsAt l s
/-- what the check of a family answers -/
def ChkIs (n : Int) (l : List Int) (e : Int) : Prop := (¬ isFam n l → e = 1) ∧ (isFam n l → ¬ Good n l → e = 3) ∧ (isFam n l → Good n l → e = 0)
theorem ChkIs.ex (n : Int) (l : List Int) : ∃ e, ChkIs n l e := by
  by_cases h : isFam n l
  · by_cases g : Good n l
    · exact ⟨0, fun x => absurd h x, fun _ x => absurd g x, fun _ _ => rfl⟩
    · exact ⟨3, fun x => absurd h x, fun _ _ => rfl, fun _ x => absurd x g⟩
  · exact ⟨1, fun _ => rfl, fun x => absurd x h, fun x => absurd x h⟩

/-- first and last of a family -/
theorem fam_first {n : Int} {l : List Int} (h : isFam n l) : (0 : Int) ∈ l ↔ 0 < l.length ∧ l.getD 0 0 = 0 := by
  constructor
  · intro hm
    obtain ⟨i, hi, e⟩ := mem_idx hm
    refine ⟨by omega, ?_⟩
    by_cases c : i = 0
    · rw [c] at e; exact e
    · have := h.2.2.rising 0 i (by omega) hi
      have := (h.2.2 0 (by omega)).1
      omega
  · rintro ⟨h1, h2⟩
    have : l.getD 0 0 ∈ l := by simp [h1]
    rw [h2] at this; exact this
theorem fam_last {n : Int} {l : List Int} (h : isFam n l) : all n ∈ l ↔ 0 < l.length ∧ l.getD (l.length - 1) 0 = all n := by
  constructor
  · intro hm
    obtain ⟨i, hi, e⟩ := mem_idx hm
    refine ⟨by omega, ?_⟩
    by_cases c : i = l.length - 1
    · rw [c] at e; exact e
    · have := h.2.2.rising i (l.length - 1) (by omega) (by omega)
      have := (h.2.2 (l.length - 1) (by omega)).2.1
      omega
  · rintro ⟨h1, h2⟩
    have : l.getD (l.length - 1) 0 ∈ l := by simp [show l.length - 1 < l.length by omega]
    rw [h2] at this; exact this

/-- the bits that have been gone through: those of s that t no longer has -/
def downTo (l : List Int) (s t : Nat) : Prop := s = 0 ∨ ∃ e, e < 8 ∧ s.testBit e = true ∧ t.testBit e = false ∧ ((s - bit e : Nat) : Int) ∈ l
def subBits (t s : Nat) : Prop := ∀ i, i < 8 → t.testBit i = true → s.testBit i = true
theorem subBits_refl (s : Nat) : subBits s s := fun _ _ h => h
theorem subBits_drop {t s : Nat} (ht : t < 256) (h0 : t ≠ 0) (h : subBits t s) : subBits (drop1 t) s := by
  obtain ⟨e, he, _, h2, h3, _⟩ := low_facts t ht h0
  intro i hi hb
  rw [h3 i hi] at hb
  exact h i hi (by simp at hb; exact hb.1)
theorem downTo_start (l : List Int) (s : Nat) : downTo l s s ↔ s = 0 := by
  constructor
  · rintro (h | ⟨e, _, h1, h2, _⟩)
    · exact h
    · rw [h1] at h2; cases h2
  · exact .inl
theorem downTo_end (l : List Int) (s : Nat) : downTo l s 0 ↔ down l s := by
  unfold downTo down
  simp
/-- one step of the walk over the bits of s -/
theorem downTo_step {l : List Int} {s t : Nat} (hs : s < 256) (ht : t < 256) (h0 : t ≠ 0) (hsub : subBits t s) : downTo l s (drop1 t) ↔ downTo l s t ∨ ((nand s (low t) : Nat) : Int) ∈ l := by
  obtain ⟨e, he, h1, h2, h3, h4, _⟩ := low_facts t ht h0
  have hse := hsub e he h2
  rw [h1, nand_bit s e hs he hse]
  unfold downTo
  constructor
  · rintro (h | ⟨i, hi, a, b, c⟩)
    · exact .inl (.inl h)
    · rw [h3 i hi] at b
      by_cases hie : i = e
      · subst hie; exact .inr c
      · simp [hie] at b
        exact .inl (.inr ⟨i, hi, a, b, c⟩)
  · rintro ((h | ⟨i, hi, a, b, c⟩) | h)
    · exact .inl h
    · exact .inr ⟨i, hi, a, by rw [h3 i hi, b]; rfl, c⟩
    · exact .inr ⟨e, he, hse, by rw [h3 e he]; simp, h⟩

theorem joins_step {l : List Int} {s : Nat} {k : Nat} {t : Nat} (h : ∀ j, j < k → ∀ t : Nat, l.getD j 0 = t → ((s ||| t : Nat) : Int) ∈ l) (hk : l.getD k 0 = t) (hm : ((s ||| t : Nat) : Int) ∈ l) : ∀ j, j < k + 1 → ∀ t : Nat, l.getD j 0 = t → ((s ||| t : Nat) : Int) ∈ l := by
  intro j hj t' ht'
  by_cases e : j = k
  · subst e; rw [hk] at ht'; have : t' = t := by omega
    rw [this]; exact hm
  · exact h j (by omega) t' ht'
theorem joins_end {l : List Int} {s : Nat} (h : ∀ j, j < l.length → ∀ t : Nat, l.getD j 0 = t → ((s ||| t : Nat) : Int) ∈ l) : joinsAt l s := by
  intro t ht
  obtain ⟨j, hj, e⟩ := mem_idx ht
  exact h j hj t e
theorem good_end {n : Int} {l : List Int} (h1 : (0 : Int) ∈ l) (h2 : all n ∈ l) (h : ∀ j, j < l.length → ∀ s : Nat, l.getD j 0 = s → down l s ∧ joinsAt l s) : Good n l := by
  refine ⟨h1, h2, fun s hs => ?_⟩
  obtain ⟨j, hj, e⟩ := mem_idx hs
  exact h j hj s e
theorem good_step {l : List Int} {k s : Nat} (h : ∀ j, j < k → ∀ s : Nat, l.getD j 0 = s → down l s ∧ joinsAt l s) (hk : l.getD k 0 = s) (hs : down l s ∧ joinsAt l s) : ∀ j, j < k + 1 → ∀ s : Nat, l.getD j 0 = s → down l s ∧ joinsAt l s := by
  intro j hj t ht
  by_cases e : j = k
  · subst e; rw [hk] at ht; have : t = s := by omega
    rw [this]; exact hs
  · exact h j (by omega) t ht

set_option maxHeartbeats 2000000 in
theorem c_convexCheck {B : Nat} {W : World} (u : Later B W) (n : Int) (l : List Int) (a : Option Addr) (cap : Nat) (e : Int) (h : IntsAt B W a l) (hlen : l.length ≤ 4611686018427387904) (he : ChkIs n l e) :
    Calls Tryd.prog 24 #[.int .i64 n, .slice a l.length cap] u.val (Ret B W (.int .i64 e)) := by
  have HI := Lib.hid h
  have HF := Lib.hid (c_family u n l a cap h (by omega)); clear h
  by_cases hf : isFam n l
  case neg =>
    have hz : errno (decide (isFam n l)) 1 = 1 := by simp [errno, hf]
    rw [hz] at HF
    have e1 := he.1 hf
    subst e1
    clear he hf hz
    go_enter Tryd.func24, Tryd.ntmps24
    go_wp2_with (go_at_call 36; refine HF.out.mono ?_; rintro e _ ⟨rfl, u1, rfl⟩)
    go_ret
    exact Ret.mk _ rfl
  have hz : errno (decide (isFam n l)) 1 = 0 := by simp [errno, hf]
  rw [hz] at HF
  clear hz
  have h3 : Hid (¬ Good n l → e = 3) := he.2.1 hf
  have h4 : Hid (Good n l → e = 0) := he.2.2 hf
  clear he
  have hn0 := hf.1
  have hn8 := hf.2.1
  obtain ⟨m, rfl⟩ := Int.eq_ofNat_of_zero_le hn0
  have hb := bit_le m (by omega)
  have hc := bit_cast m
  have hall : all (m : Int) = (bit m : Int) - 1 := by rw [all_nat]; omega
  have F1 := Lib.hid (fam_first hf)
  have F2 := fam_last hf
  rw [hall] at F2
  have F3 := Lib.hid F2
  clear F2
  have HALL := Lib.hid hall; clear hall
  have HFam := Lib.hid hf; clear hf
  have HR : Hid (rising l) := HFam.out.2.2.rising
  by_cases hl : l.length = 0
  · have e3 : e = 3 := h3.out (fun g => by have := (F1.out.1 g.1).1; omega)
    subst e3
    have hl' : l = [] := List.length_eq_zero_iff.1 hl
    subst hl'
    clear hl
    go_enter Tryd.func24, Tryd.ntmps24
    go_wp2_with (go_at_call 36; refine HF.out.mono ?_; rintro e _ ⟨rfl, u1, rfl⟩)
    refine wp_region_later u1 (by kernel_rfl) (by kernel_rfl) (fun _ => ?_)
    repeat (first | go_big_quiet_step ((fail)) | (refine wpQuiet_step (fun K hK => ?_); go_simp; refine ⟨_, fun _ => rfl, ?_⟩; refine hK _ ?_; clear hK K))
    refine wpQuiet_nil ?_
    intro u1
    go_wp2
    go_ret
    exact Ret.mk _ rfl
  obtain ⟨b, off, rfl, hbB, hcell⟩ := HI.out.at (k := 0) (by omega)
  have c0 : ∀ u : Later B W, u.val.cell? ⟨b, off, none⟩ = some (.int .i64 (l.getD 0 0)) := fun u => hcell u 0 (by omega)
  have c1 : ∀ u : Later B W, u.val.cell? ⟨b, off + (l.length - 1), none⟩ = some (.int .i64 (l.getD (l.length - 1) 0)) := fun u => hcell u (l.length - 1) (by omega)
  have d0 : ((l.length : Int) == 0) = false := beq_eq_false_iff_ne.2 (by omega)
  have HC := Lib.hid hcell; clear hcell
  generalize l.getD 0 0 = x0 at *
  generalize l.getD (l.length - 1) 0 = x1 at *
  rcases ieq x0 0 with ⟨g1, d1, d1'⟩ | ⟨g1, d1, d1'⟩
  case inr =>
    have e3 : e = 3 := h3.out (fun g => by have := (F1.out.1 g.1).2; omega)
    subst e3
    clear g1
    go_enter Tryd.func24, Tryd.ntmps24
    go_wp2_with (go_at_call 36; refine HF.out.mono ?_; rintro e _ ⟨rfl, u1, rfl⟩)
    refine wp_region_later u1 (by kernel_rfl) (by kernel_rfl) (fun _ => ?_)
    repeat (first | go_big_quiet_step ((fail)) | (refine wpQuiet_step (fun K hK => ?_); go_simp; refine ⟨_, fun _ => rfl, ?_⟩; refine hK _ ?_; clear hK K))
    refine wpQuiet_nil ?_
    intro u1
    go_wp2
    go_ret
    exact Ret.mk _ rfl
  subst g1
  rcases ieq x1 ((bit m : Int) - 1) with ⟨g2, d2, d2'⟩ | ⟨g2, d2, d2'⟩
  case inr =>
    have e3 : e = 3 := h3.out (fun g => absurd (F3.out.1 (by rw [← HALL.out]; exact g.2.1)).2 g2)
    subst e3
    clear g2
    go_enter Tryd.func24, Tryd.ntmps24
    go_wp2_with (go_at_call 36; refine HF.out.mono ?_; rintro e _ ⟨rfl, u1, rfl⟩)
    refine wp_region_later u1 (by kernel_rfl) (by kernel_rfl) (fun _ => ?_)
    repeat (first | go_big_quiet_step ((fail)) | (refine wpQuiet_step (fun K hK => ?_); go_simp; refine ⟨_, fun _ => rfl, ?_⟩; refine hK _ ?_; clear hK K))
    refine wpQuiet_nil ?_
    intro u1
    go_wp2
    go_ret
    exact Ret.mk _ rfl
  subst g2
  have M1 : Hid ((0 : Int) ∈ l) := F1.out.2 ⟨by omega, rfl⟩
  have M2 : Hid (all (m : Int) ∈ l) := by
    have := F3.out.2 ⟨by omega, rfl⟩
    rw [← HALL.out] at this; exact this
  clear F1 F3
  go_enter Tryd.func24, Tryd.ntmps24
  go_wp2_with (go_at_call 36; refine HF.out.mono ?_; rintro e _ ⟨rfl, u1, rfl⟩)
  refine wp_region_later u1 (by kernel_rfl) (by kernel_rfl) (fun _ => ?_)
  repeat (first | go_big_quiet_step ((fail)) | (refine wpQuiet_step (fun K hK => ?_); go_simp; refine ⟨_, fun _ => rfl, ?_⟩; refine hK _ ?_; clear hK K))
  refine wpQuiet_nil ?_
  intro u1
  clear c0 c1 d1 d1' d2 d2'
  go_wp2
  go_loopw [41] (fun i wr => ∃ (k : Nat) (u : Later B W), k ≤ l.length ∧ i = .int .i64 k ∧ wr = u.val ∧ Hid (∀ j, j < k → ∀ s : Nat, l.getD j 0 = s → down l s ∧ joinsAt l s)) (fun i _ => l.length - (intOf i).toNat)
  case atStart => exact ⟨0, u1, by omega, rfl, rfl, by intro i hi; omega⟩
  case round =>
    obtain ⟨k, u, hk, rfl, rfl, hf⟩ := hrel
    by_cases hlt : k < l.length
    · obtain ⟨s, hs, hs256, hsall, hsm⟩ := fam_nat HFam.out hlt
      have c0 : u.val.cell? ⟨b, off + k, none⟩ = some (.int .i64 s) := by rw [← hs]; exact HC.out u k hlt
      have Hs := Lib.hid hs; have Hsm := Lib.hid hsm
      clear hs hsm hsall
      go_wp2
      go_loopw [8, 9] (fun o t wr => ∃ (t' : Nat) (ok : Bool) (u : Later B W), t' < 256 ∧ t = .int .i64 t' ∧ o = .bool ok ∧ wr = u.val ∧ Hid (ok = true ↔ downTo l s t') ∧ Hid (subBits t' s)) (fun _ t _ => (intOf t).toNat)
      case atStart => exact ⟨s, (s : Int) == 0, u, hs256, rfl, rfl, rfl, Lib.hid (by rw [downTo_start]; simp), subBits_refl s⟩
      case round =>
        obtain ⟨t, ok, u, ht, rfl, rfl, rfl, H1, H2⟩ := hrel
        by_cases h0 : t = 0
        · subst h0
          rw [show ((0 : Nat) : Int) = 0 from rfl]
          have H5 : Hid (ok = true ↔ down l s) := by rw [← downTo_end]; exact H1.out
          clear H1 H2
          cases ok
          · have e3 : e = 3 := h3.out (fun g => by have := (g.2.2 s Hsm.out).1; have := H5.out.2 this; cases this)
            subst e3
            go_wp2
            go_ret
            exact Ret.mk _ rfl
          · have H6 : Hid (down l s) := H5.out.1 rfl
            clear H5
            go_wp2
            go_loopw [69] (fun i wr => ∃ (p : Nat) (u : Later B W), p ≤ l.length ∧ i = .int .i64 p ∧ wr = u.val ∧ Hid (∀ j, j < p → ∀ t : Nat, l.getD j 0 = t → ((s ||| t : Nat) : Int) ∈ l)) (fun i _ => l.length - (intOf i).toNat)
            case atStart => exact ⟨0, u, by omega, rfl, rfl, by intro i hi; omega⟩
            case round =>
              obtain ⟨p, u, hp, rfl, rfl, hj⟩ := hrel
              by_cases hlp : p < l.length
              · obtain ⟨t, hte, ht256, _, htm⟩ := fam_nat HFam.out hlp
                have c1 : u.val.cell? ⟨b, off + p, none⟩ = some (.int .i64 t) := by rw [← hte]; exact HC.out u p hlp
                have hor := i64_or s t (by omega) (by omega)
                have Ht := Lib.hid hte; have Htm := Lib.hid htm
                clear hte htm
                have HH := Lib.hid (c_convexHas u l ((s ||| t : Nat) : Int) (some ⟨b, off, none⟩) cap HI.out hlen HR.out)
                by_cases hm : ((s ||| t : Nat) : Int) ∈ l
                · rw [show decide (((s ||| t : Nat) : Int) ∈ l) = true from decide_eq_true hm] at HH
                  have Hm := Lib.hid hm; clear hm
                  go_wp2_with (go_at_call 37; refine HH.out.mono ?_; rintro e _ ⟨rfl, u2, rfl⟩)
                  go_roundw
                  case rel => exact ⟨p+1, u2, by omega, by go_num, rfl, joins_step hj.out Ht.out Hm.out⟩
                  case measure => simp [intOf]; omega
                · rw [show decide (((s ||| t : Nat) : Int) ∈ l) = false from decide_eq_false hm] at HH
                  have e3 : e = 3 := h3.out (fun g => hm ((g.2.2 s Hsm.out).2 t Htm.out))
                  subst e3
                  clear hm
                  go_wp2_with (go_at_call 37; refine HH.out.mono ?_; rintro e _ ⟨rfl, u2, rfl⟩)
                  go_ret
                  exact Ret.mk _ rfl
              · go_wp2
                go_roundw
                case rel =>
                  have hj' := hj.out
                  rw [show p = l.length by omega] at hj'
                  exact ⟨k+1, u, by omega, by go_num, rfl, good_step hf.out Hs.out ⟨H6.out, joins_end hj'⟩⟩
                case measure => simp [intOf]; omega
        · have hl1 := i64_low t ht
          have hl2 := i64_andNot s (low t) (by omega) (by have := low_lt t ht; omega)
          have hl3 := i64_drop1 t ht (by omega)
          have HD := Lib.hid (drop1_lt t ht)
          have d0 : ((t : Int) != 0) = true := by simp; omega
          have HM : Hid (drop1 t < t) := by obtain ⟨_, _, _, _, _, _, h⟩ := low_facts t ht h0; exact h
          have HS := Lib.hid (downTo_step (l := l) hs256 ht h0 H2.out)
          have HB := Lib.hid (subBits_drop ht h0 H2.out)
          have HH := Lib.hid (c_convexHas u l ((nand s (low t) : Nat) : Int) (some ⟨b, off, none⟩) cap HI.out hlen HR.out)
          cases ok
          · generalize hq : decide (((nand s (low t) : Nat) : Int) ∈ l) = q at HH
            have Hq := Lib.hid hq; clear hq
            go_wp2_with (go_at_call 37; refine HH.out.mono ?_; rintro e _ ⟨rfl, u2, rfl⟩)
            go_roundw
            case rel => exact ⟨drop1 t, q, u2, HD.out, rfl, rfl, rfl, Lib.hid (by rw [HS.out, ← H1.out, ← Hq.out]; simp), HB.out⟩
            case measure => have := HM.out; simp [intOf]; omega
          · clear HH
            go_wp2
            go_roundw
            case rel => exact ⟨drop1 t, true, u, HD.out, rfl, rfl, rfl, Lib.hid (by rw [HS.out, ← H1.out]; simp), HB.out⟩
            case measure => have := HM.out; simp [intOf]; omega
    · go_wp2
      go_ret
      have hf' := hf.out
      rw [show k = l.length by omega] at hf'
      exact Ret.mk u (vint (h4.out (good_end M1.out M2.out hf')).symm)

end Go.Proofs.YtdhkobeagfmcnaaDoor
