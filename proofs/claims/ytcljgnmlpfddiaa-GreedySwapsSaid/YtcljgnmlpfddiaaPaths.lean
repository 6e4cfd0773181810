/-
  rotaref.Takings: how many ways lead from a set to all elements, one element a step, through the sets of a list; and the first of them.
-/
import Derived.Test.YtcljgnmlpfddiaaMem
import Derived.Test.YtcljgnmlpfddiaaFam2
namespace Go.Proofs.Ytcljgnmlpfddiaa
open Go.RowKit
set_option linter.unusedVariables false

def takStep (l : List Int) (f : Nat → Nat × List Int) (s : Nat) (acc : Nat × List Int) (i : Nat) : Nat × List Int :=
  if s.testBit i = true then acc
  else if ((s : Int) + (bit i : Int)) ∈ l then (acc.1 + (f (s + bit i)).1, if acc.1 = 0 ∧ 0 < (f (s + bit i)).1 then (i : Int) :: (f (s + bit i)).2 else acc.2)
  else acc
def takLoop (l : List Int) (f : Nat → Nat × List Int) (s : Nat) : Nat → Nat × List Int
  | 0 => (0, [])
  | k + 1 => takStep l f s (takLoop l f s k) k
def tak (l : List Int) (m : Nat) : Nat → Nat → Nat × List Int
  | 0, s => if s = bit m - 1 then (1, []) else (0, [])
  | f + 1, s => if s = bit m - 1 then (1, []) else takLoop l (tak l m f) s m

/-- how many of m elements are not in s -/
def rem (m s : Nat) : Nat := ((List.range m).filter (fun i => !s.testBit i)).length
theorem rem_step {m s i : Nat} (hm : m ≤ 8) (hs : s < bit m) (hi : i < m) (h : s.testBit i = false) : rem m (s + bit i) + 1 = rem m s ∧ s + bit i < bit m := by
  have hb := bit_le m hm
  have : ∀ m : Fin 9, ∀ s : Fin 256, ∀ i : Fin 8, s.val < bit m.val → i.val < m.val → s.val.testBit i.val = false → rem m.val (s.val + bit i.val) + 1 = rem m.val s.val ∧ s.val + bit i.val < bit m.val := by decide +kernel
  exact this ⟨m, by omega⟩ ⟨s, by omega⟩ ⟨i, by omega⟩ hs hi h
theorem rem_zero {m s : Nat} (hm : m ≤ 8) (hs : s < bit m) : rem m s = 0 ↔ s = bit m - 1 := by
  have hb := bit_le m hm
  have : ∀ m : Fin 9, ∀ s : Fin 256, s.val < bit m.val → (rem m.val s.val = 0 ↔ s.val = bit m.val - 1) := by decide +kernel
  exact this ⟨m, by omega⟩ ⟨s, by omega⟩ hs
theorem rem_le (m s : Nat) : rem m s ≤ m := by
  have := List.length_filter_le (fun i => !s.testBit i) (List.range m)
  simpa [rem] using this

theorem takLoop_bound {l : List Int} {f : Nat → Nat × List Int} {b s : Nat} (h : ∀ t, (f t).1 ≤ b) (k : Nat) : (takLoop l f s k).1 ≤ k * b := by
  induction k with
  | zero => exact Nat.zero_le _
  | succ k ih =>
    show (takStep l f s (takLoop l f s k) k).1 ≤ (k + 1) * b
    unfold takStep
    have := h (s + bit k)
    rw [Nat.add_mul]
    split
    · omega
    · split
      · show _ + _ ≤ _; omega
      · omega
theorem tak_bound (l : List Int) {m : Nat} (hm : m ≤ 8) (f s : Nat) : (tak l m f s).1 ≤ 8 ^ f := by
  induction f generalizing s with
  | zero => unfold tak; split <;> simp
  | succ f ih =>
    unfold tak
    split
    · exact Nat.one_le_pow (f+1) 8 (by decide)
    · have := takLoop_bound (l := l) (s := s) ih m
      have h2 : m * 8 ^ f ≤ 8 * 8 ^ f := Nat.mul_le_mul_right _ hm
      rw [Nat.pow_succ]; omega
theorem pow8 {f : Nat} (h : f ≤ 8) : 8 ^ f ≤ 16777216 := by
  have := Nat.pow_le_pow_right (show 0 < 8 by decide) h
  simpa using this

theorem takLoop_len {l : List Int} {f : Nat → Nat × List Int} {b s : Nat} (h : ∀ t, (f t).2.length ≤ b) (k : Nat) : (takLoop l f s k).2.length ≤ b + 1 := by
  induction k with
  | zero => exact Nat.zero_le _
  | succ k ih =>
    show (takStep l f s (takLoop l f s k) k).2.length ≤ b + 1
    unfold takStep
    have := h (s + bit k)
    split
    · exact ih
    · split
      · show (if _ then _ else _ : List Int).length ≤ _
        split
        · simp only [List.length_cons]; omega
        · exact ih
      · exact ih
theorem tak_len (l : List Int) (m f s : Nat) : (tak l m f s).2.length ≤ f := by
  induction f generalizing s with
  | zero => unfold tak; split <;> simp
  | succ f ih =>
    unfold tak
    split
    · simp
    · exact takLoop_len ih m

/-- what Takings gives back -/
def takPost (x : Nat × List Int) (v : Value) (w : World) : Prop := ∃ v1, v = .tuple #[.int .i64 (x.1 : Int), v1] ∧ Reads w.heap.size w v1 x.2
theorem takPost.mk {x : Nat × List Int} {v1 : Value} {w : World} (h : Reads w.heap.size w v1 x.2) : takPost x (.tuple #[.int .i64 (x.1 : Int), v1]) w := ⟨v1, rfl, h⟩

set_option maxHeartbeats 2000000 in
theorem c_takings (m : Nat) (l : List Int) (a : Option Addr) (cap : Nat) (hm : m ≤ 8) (hlen : l.length ≤ 4611686018427387904) (f : Nat) :
    ∀ (B : Nat) (W : World) (u : Later B W) (s : Nat), IntsAt B W a l → s < bit m → rem m s = f →
    Calls Try.prog 47 #[.int .i64 m, .slice a l.length cap, .int .i64 s] u.val (RetP B W (takPost (tak l m f s))) := by
  induction f with
  | zero =>
    intro B W u s hI hs hr
    have he := (rem_zero hm hs).1 hr
    have hb := bit_le m hm
    have HA : Hid (∀ u : Later B W, Calls Try.prog 59 #[.int .i64 m] u.val (Ret B W (.int .i64 (s : Int)))) := fun u => by have := c_all u m (by omega) (by omega); rwa [all_nat, ← he] at this
    have HE : Hid (tak l m 0 s = (1, [])) := Lib.hid (by unfold tak; rw [if_pos he])
    clear he hr hI
    rw [HE.out]
    go_enter Try.func47, Try.ntmps47
    go_wp2_with (go_at_call 59; refine (HA.out _).mono ?_; rintro e _ ⟨rfl, u1, rfl⟩)
    go_ret2
    exact RetP.mk _ (takPost.mk (x := (1, [])) (Reads.nil _ _))
  | succ f ih =>
    intro B W u s hI hs hr
    have hb := bit_le m hm
    have HI := Lib.hid hI
    have hne : s ≠ bit m - 1 := fun e => by have := (rem_zero hm hs).2 e; omega
    have HA : Hid (∀ u : Later B W, Calls Try.prog 59 #[.int .i64 m] u.val (Ret B W (.int .i64 ((bit m : Int) - 1)))) := fun u => by have := c_all u m (by omega) (by omega); rwa [all_nat, show ((bit m - 1 : Nat) : Int) = (bit m : Int) - 1 by omega] at this
    have d0 : ((s : Int) == (bit m : Int) - 1) = false := beq_eq_false_iff_ne.2 (by omega)
    have HE : Hid (tak l m (f + 1) s = takLoop l (tak l m f) s m) := Lib.hid (by show (if s = bit m - 1 then (1, []) else _) = _; rw [if_neg hne])
    have hrl := rem_le m s
    have HR := Lib.hid hr
    have HIH := Lib.hid ih
    clear hr ih hne hI
    rw [HE.out]
    have HT := Lib.hid (tak_bound l hm f)
    have hf8 : f ≤ 8 := by have := HR.out; omega
    have HP := Lib.hid (pow8 hf8)
    go_enter Try.func47, Try.ntmps47
    go_wp2_with (go_at_call 59; refine (HA.out _).mono ?_; rintro e _ ⟨rfl, u1, rfl⟩)
    go_loopw [8, 9, 10] (fun o v i wr => ∃ (k : Nat) (u : Later B W), k ≤ m ∧ i = .int .i64 k ∧ o = .int .i64 ((takLoop l (tak l m f) s k).1 : Int) ∧ wr = u.val ∧ Hid (Reads u.val.heap.size u.val v (takLoop l (tak l m f) s k).2)) (fun _ _ i _ => m - (intOf i).toNat)
    case atStart => exact ⟨0, u1, by omega, rfl, rfl, rfl, Reads.nil _ _⟩
    case round =>
      obtain ⟨k, u, hk, rfl, rfl, rfl, HV⟩ := hrel
      obtain ⟨ad, cp, rfl, hV, hcp⟩ := HV.out
      by_cases hlt : k < m
      · have hbk := bit_lt k (by omega)
        have hbc := bit_cast k
        have HS : Hid (takLoop l (tak l m f) s (k+1) = takStep l (tak l m f) s (takLoop l (tak l m f) s k) k) := Lib.hid rfl
        have hbd := takLoop_bound (l := l) (s := s) HT.out k
        have hbd2 : (takLoop l (tak l m f) s k).1 ≤ 134217728 := by
          have h1 := HP.out
          have h2 : k * 8 ^ f ≤ 8 * 16777216 := Nat.mul_le_mul (by omega) h1
          omega
        clear hbd
        have hI2 := HI.out.to u
        have HIn := Lib.hid (c_in (Later.self u.val) s k (by omega) (by omega))
        have HH := Lib.hid (fun v : Later u.val.heap.size u.val => c_has v l ((s : Int) + (bit k : Int)) a cap hI2 (by omega))
        have HIH2 := Lib.hid (fun v h1 h2 => HIH.out u.val.heap.size u.val v (s + bit k) hI2 h1 h2)
        rw [show ((s + bit k : Nat) : Int) = (s : Int) + (bit k : Int) by omega] at HIH2
        have HVV := Lib.hid hV; clear hV
        have HCP := Lib.hid hcp; clear hcp
        have hb3 := HT.out (s + bit k)
        have hb4 : (tak l m f (s + bit k)).1 ≤ 16777216 := Nat.le_trans hb3 HP.out
        clear hb3
        have HTR : Hid (s.testBit k = false → rem m (s + bit k) = f ∧ s + bit k < bit m) := fun h => by
          have := rem_step hm hs hlt h
          have := HR.out
          omega
        generalize hX : takLoop l (tak l m f) s k = X at *
        generalize hY : tak l m f (s + bit k) = Y at *
        have HX := Lib.hid hX; clear hX
        have HY := Lib.hid hY; clear hY
        rcases btf (s.testBit k) with g1 | g1
        · rw [g1] at HIn
          have G1 := Lib.hid g1; clear g1
          go_wp2_with (go_at_call 21; refine HIn.out.mono ?_; rintro e _ ⟨rfl, v1, rfl⟩)
          go_roundw
          case rel =>
            refine ⟨k+1, u.up v1, by omega, by go_num, ?_, rfl, ?_⟩
            · rw [HS.out]; unfold takStep; rw [if_pos G1.out]
            · rw [HS.out]; unfold takStep; rw [if_pos G1.out]
              exact (Reads.mk HVV.out HCP.out).keep v1.below |>.mono v1.size
          case measure => simp [intOf]; omega
        · rw [g1] at HIn
          have G1 := Lib.hid g1; clear g1
          by_cases g2 : ((s : Int) + (bit k : Int)) ∈ l
          · have HH2 := Lib.hid (fun v => dcall_t (HH.out v) g2); clear HH
            have G2 := Lib.hid g2; clear g2
            have HCall := Lib.hid (fun v => HIH2.out v (HTR.out G1.out).2 (HTR.out G1.out).1); clear HIH2
            have HL : Hid (Y.2.length ≤ 8) := Lib.hid (by rw [← HY.out]; exact Nat.le_trans (tak_len l m f _) hf8)
            have HN : Hid (takLoop l (tak l m f) s (k+1) = (X.1 + Y.1, if X.1 = 0 ∧ 0 < Y.1 then (k : Int) :: Y.2 else X.2)) := Lib.hid (by rw [HS.out]; unfold takStep; rw [if_neg (by rw [G1.out]; decide), if_pos G2.out, HY.out])
            rcases ieq (X.1 : Int) 0 with ⟨g3, d3, _⟩ | ⟨g3, d3, _⟩ <;> rcases nlt 0 Y.1 with ⟨g4, d4⟩ | ⟨g4, d4⟩
            case inl.inl =>
              have G3 := Lib.hid g3; clear g3
              go_wp2_with (first | (go_at_call 21; refine HIn.out.mono ?_; rintro e _ ⟨rfl, v1, rfl⟩) | (go_at_call 75; refine (HH2.out _).mono ?_; rintro e _ ⟨rfl, v1, rfl⟩) | (go_at_call 47; refine (HCall.out _).mono ?_; rintro e _ ⟨_, rfl, ⟨_, rfl, ⟨ad2, cp2, rfl, hI3, hcp3⟩⟩, v2, rfl⟩; have HI3 := Lib.hid hI3; have HC3 := Lib.hid hcp3; clear hI3 hcp3) | (at_builtin; refine wpList_appends_g (B := v2.val.heap.size) (by simp) rfl _ _ rfl [(k : Int)] (some ⟨v2.val.heap.size, 0, none⟩) 1 rfl (Own.lit (Nat.le_refl _) _) Y.2 ad2 cp2 rfl ((HI3.out.later ((Below.refl _ _).alloc (Nat.le_refl _) _)).mono (by simp)) HC3.out (by have := HL.out; simp; omega) ?_; intro w' ad' cap' hown hgrow))
              go_roundw
              case rel =>
                refine ⟨k+1, (u.up v2).to w' ((own_below ((Below.refl _ _).alloc (Nat.le_refl _) _) (by simp) (Own.lit (Nat.le_refl _) _) hgrow).mono (u.up v2).size), by omega, by go_num, vint ?_, rfl, ?_⟩
                · rw [HN.out]; show _ = ((X.1 + Y.1 : Nat) : Int); omega
                · rw [HN.out]
                  have := G3.out
                  show Reads _ _ _ (if _ then _ else _)
                  rw [if_pos ⟨by omega, g4⟩]
                  exact Reads.of_own hown
              case measure => simp [intOf]; omega
            all_goals
              have G3 := Lib.hid g3; clear g3
              go_wp2_with (first | (go_at_call 21; refine HIn.out.mono ?_; rintro e _ ⟨rfl, v1, rfl⟩) | (go_at_call 75; refine (HH2.out _).mono ?_; rintro e _ ⟨rfl, v1, rfl⟩) | (go_at_call 47; refine (HCall.out _).mono ?_; rintro e _ ⟨_, rfl, ⟨_, rfl, ⟨ad2, cp2, rfl, hI3, hcp3⟩⟩, v2, rfl⟩; have HI3 := Lib.hid hI3; have HC3 := Lib.hid hcp3; clear hI3 hcp3))
              go_roundw
              case rel =>
                refine ⟨k+1, u.up v2, by omega, by go_num, vint ?_, rfl, ?_⟩
                · rw [HN.out]; show _ = ((X.1 + Y.1 : Nat) : Int); omega
                · rw [HN.out]
                  have := G3.out
                  show Reads _ _ _ (if _ then _ else _)
                  rw [if_neg (by omega)]
                  exact (Reads.mk HVV.out HCP.out).keep v2.below |>.mono v2.size
              case measure => simp [intOf]; omega
          · have HH2 := Lib.hid (fun v => dcall_f (HH.out v) g2); clear HH
            have G2 := Lib.hid g2; clear g2
            go_wp2_with (first | (go_at_call 21; refine HIn.out.mono ?_; rintro e _ ⟨rfl, v1, rfl⟩) | (go_at_call 75; refine (HH2.out _).mono ?_; rintro e _ ⟨rfl, v1, rfl⟩))
            go_roundw
            case rel =>
              refine ⟨k+1, u.up v1, by omega, by go_num, ?_, rfl, ?_⟩
              · rw [HS.out]; unfold takStep; rw [if_neg (by rw [G1.out]; decide), if_neg G2.out]
              · rw [HS.out]; unfold takStep; rw [if_neg (by rw [G1.out]; decide), if_neg G2.out]
                exact (Reads.mk HVV.out HCP.out).keep v1.below |>.mono v1.size
            case measure => simp [intOf]; omega
      · have hke : k = m := by omega
        subst hke
        have HVV := Lib.hid hV; clear hV
        have HCP := Lib.hid hcp; clear hcp
        go_wp2
        go_ret2
        exact RetP.mk _ (takPost.mk (Reads.mk HVV.out HCP.out))

end Go.Proofs.Ytcljgnmlpfddiaa
