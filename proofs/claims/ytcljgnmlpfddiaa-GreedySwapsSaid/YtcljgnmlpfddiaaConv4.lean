/-
  convex.right, convex.Hull, convex.Extreme, rotaref.Ends.
-/
import Derived.Test.YtcljgnmlpfddiaaConv3
namespace Go.Proofs.Ytcljgnmlpfddiaa
open Go.RowKit
set_option linter.unusedVariables false

/-- what is wrong with a family and a set -/
def RightIs (n : Int) (l : List Int) (s e : Int) : Prop := ∃ c, ChkIs n l c ∧ e = if c = 0 then errno (decide (isSet n s)) 1 else c
theorem RightIs.ok {n : Int} {l : List Int} {s : Int} (h : RightIs n l s 0) : isFam n l ∧ Good n l ∧ isSet n s := by
  obtain ⟨c, hc, e⟩ := h
  split at e
  · rename_i h0
    subst h0
    have hf : isFam n l := by
      by_cases hf : isFam n l
      · exact hf
      · have := hc.1 hf; omega
    have hg : Good n l := by
      by_cases hg : Good n l
      · exact hg
      · have := hc.2.1 hf hg; omega
    refine ⟨hf, hg, ?_⟩
    by_cases hs : isSet n s
    · exact hs
    · simp [errno, hs] at e
  · rename_i h0; exact absurd e.symm h0

set_option maxHeartbeats 1000000 in
theorem c_right {B : Nat} {W : World} (u : Later B W) (n : Int) (l : List Int) (s : Int) (a : Option Addr) (cap : Nat) (e : Int) (h : IntsAt B W a l) (hlen : l.length ≤ 4611686018427387904) (he : RightIs n l s e) :
    Calls Try.prog 110 #[.int .i64 n, .slice a l.length cap, .int .i64 s] u.val (Ret B W (.int .i64 e)) := by
  obtain ⟨c, hc, e1⟩ := he
  have HC := Lib.hid (c_convexCheck u n l a cap c h hlen hc)
  have HS := Lib.hid (fun u : Later B W => c_setsCheck u n s)
  clear h hc
  rcases ieq c 0 with ⟨g, d1, d2⟩ | ⟨g, d1, d2⟩
  · subst g
    have E := Lib.hid e1; clear e1
    go_enter Try.func110, Try.ntmps110
    go_wp2_with (first | (go_at_call 54; refine HC.out.mono ?_; rintro e _ ⟨rfl, u1, rfl⟩) | (go_at_call 148; refine (HS.out _).mono ?_; rintro e _ ⟨rfl, u1, rfl⟩))
    go_ret
    exact Ret.mk _ (vint (by rw [E.out]; rfl))
  · rw [if_neg g] at e1
    subst e1
    clear g
    go_enter Try.func110, Try.ntmps110
    go_wp2_with (first | (go_at_call 54; refine HC.out.mono ?_; rintro e _ ⟨rfl, u1, rfl⟩) | (go_at_call 148; refine (HS.out _).mono ?_; rintro e _ ⟨rfl, u1, rfl⟩))
    go_ret
    exact Ret.mk _ rfl

/-- a set of n elements, as a number -/
theorem isSet_nat {n s : Int} (h : isSet n s) : ∃ m t : Nat, n = m ∧ s = t ∧ m ≤ 8 ∧ t < bit m ∧ t < 256 := by
  obtain ⟨h0, h8, h1, h2⟩ := h
  have hb := bit_le n.toNat (by omega)
  refine ⟨n.toNat, s.toNat, by omega, by omega, by omega, ?_, ?_⟩
  · unfold all at h2; unfold bit; unfold bit at hb; omega
  · unfold all at h2; unfold bit at hb; omega

set_option maxHeartbeats 1000000 in
/-- convex.Hull: the error; or the hull -/
theorem c_convexHull {B : Nat} {W : World} (u : Later B W) (n : Int) (l : List Int) (s : Int) (a : Option Addr) (cap : Nat) (e : Int) (h : IntsAt B W a l) (hlen : l.length ≤ 4611686018427387904) (he : RightIs n l s e) :
    Calls Try.prog 50 #[.int .i64 n, .slice a l.length cap, .int .i64 s] u.val (Ret B W (.tuple #[.int .i64 (if e = 0 then (hullOf n.toNat l s.toNat : Int) else 0), .int .i64 e])) := by
  have HR := Lib.hid (c_right u n l s a cap e h hlen he)
  rcases ieq e 0 with ⟨g, d1, d2⟩ | ⟨g, d1, d2⟩
  · subst g
    obtain ⟨hf, _, hs⟩ := he.ok
    obtain ⟨m, t, rfl, rfl, hm, ht, ht2⟩ := isSet_nat hs
    have HH := Lib.hid (fun u : Later B W => c_hull u m t l a cap h hlen hf ht2)
    clear h he hf hs
    rw [if_pos rfl]
    go_enter Try.func50, Try.ntmps50
    go_wp2_with (first | (go_at_call 110; refine HR.out.mono ?_; rintro e _ ⟨rfl, u1, rfl⟩) | (go_at_call 111; refine (HH.out _).mono ?_; rintro e _ ⟨rfl, u1, rfl⟩))
    go_ret2
    exact Ret.mk _ rfl
  · rw [if_neg g]
    clear h he g
    go_enter Try.func50, Try.ntmps50
    go_wp2_with (first | (go_at_call 110; refine HR.out.mono ?_; rintro e _ ⟨rfl, u1, rfl⟩))
    go_ret2
    exact Ret.mk _ rfl

/-- the extreme elements of a set -/
def ExtIs (m : Nat) (l : List Int) (s X : Nat) : Prop := X < 256 ∧ ∀ i, i < 8 → (X.testBit i = true ↔ (s.testBit i = true ∧ (hullOf m l (s - bit i)).testBit i = false))
theorem ExtIs.ex (m : Nat) (l : List Int) (s : Nat) : ∃ X, ExtIs m l s X := exists_set _
theorem ExtIs.uniq {m : Nat} {l : List Int} {s X Y : Nat} (h : ExtIs m l s X) (k : ExtIs m l s Y) : X = Y := by
  refine eq_of_bits h.1 k.1 (fun i hi => ?_)
  rw [Bool.eq_iff_iff, h.2 i hi, k.2 i hi]
/-- .. of those that t no longer has -/
def extTo (m : Nat) (l : List Int) (s t x : Nat) : Prop := x < 256 ∧ ∀ i, i < 8 → (x.testBit i = true ↔ (s.testBit i = true ∧ t.testBit i = false ∧ (hullOf m l (s - bit i)).testBit i = false))
theorem extTo_start (m : Nat) (l : List Int) (s : Nat) : extTo m l s s 0 := ⟨by decide, fun i _ => by
  rw [Nat.zero_testBit]
  constructor
  · intro h; cases h
  · rintro ⟨h1, h2, _⟩; rw [h1] at h2; cases h2⟩
theorem extTo_end {m : Nat} {l : List Int} {s x : Nat} (h : extTo m l s 0 x) : ExtIs m l s x := ⟨h.1, fun i hi => by rw [h.2 i hi]; simp⟩
theorem extTo_hit {m : Nat} {l : List Int} {s t x : Nat} (hs : s < 256) (ht : t < 256) (h0 : t ≠ 0) (hsub : subBits t s) (h : extTo m l s t x) (hh : hullOf m l (nand s (low t)) &&& low t = 0) : extTo m l s (drop1 t) (x ||| low t) := by
  obtain ⟨e, he, h1, h2, h3, _⟩ := low_facts t ht h0
  have hse := hsub e he h2
  rw [and_low_zero h1, h1, nand_bit s e hs he hse] at hh
  refine ⟨or_lt _ _ h.1 (low_lt t ht), fun i hi => ?_⟩
  rw [Nat.testBit_or, testBit_low h1, h3 i hi]
  by_cases c : e = i
  · subst c; simp [hse, hh]
  · have c' : i ≠ e := fun h => c h.symm
    simp only [c, c', decide_false, Bool.or_false, decide_true, Bool.and_true, ne_eq, not_false_eq_true]
    exact h.2 i hi
theorem extTo_miss {m : Nat} {l : List Int} {s t x : Nat} (hs : s < 256) (ht : t < 256) (h0 : t ≠ 0) (hsub : subBits t s) (h : extTo m l s t x) (hh : ¬ hullOf m l (nand s (low t)) &&& low t = 0) : extTo m l s (drop1 t) x := by
  obtain ⟨e, he, h1, h2, h3, _⟩ := low_facts t ht h0
  have hse := hsub e he h2
  rw [and_low_zero h1, h1, nand_bit s e hs he hse] at hh
  refine ⟨h.1, fun i hi => ?_⟩
  rw [h3 i hi]
  by_cases c : i = e
  · subst c
    have := h.2 i hi
    rw [this]; simp [h2, hh]
  · simp only [c, decide_true, Bool.and_true, ne_eq, not_false_eq_true]
    exact h.2 i hi

set_option maxHeartbeats 1000000 in
theorem c_extreme {B : Nat} {W : World} (u : Later B W) (n : Int) (l : List Int) (s : Int) (a : Option Addr) (cap : Nat) (e : Int) (X : Nat) (h : IntsAt B W a l) (hlen : l.length ≤ 4611686018427387904) (he : RightIs n l s e) (hX : ExtIs n.toNat l s.toNat X) :
    Calls Try.prog 51 #[.int .i64 n, .slice a l.length cap, .int .i64 s] u.val (Ret B W (.tuple #[.int .i64 (if e = 0 then (X : Int) else 0), .int .i64 e])) := by
  have HR := Lib.hid (c_right u n l s a cap e h hlen he)
  rcases ieq e 0 with ⟨g, d1, d2⟩ | ⟨g, d1, d2⟩
  · subst g
    obtain ⟨hf, _, hs⟩ := he.ok
    obtain ⟨m, s, rfl, rfl, hm, ht, hs256⟩ := isSet_nat hs
    have HX : Hid (ExtIs m l s X) := hX
    have HH := Lib.hid (fun (u : Later B W) (t : Nat) (ht2 : t < 256) => c_hull u m t l a cap h hlen hf ht2)
    clear h he hf hs hX
    rw [if_pos rfl]
    go_enter Try.func51, Try.ntmps51
    go_wp2_with (first | (go_at_call 110; refine HR.out.mono ?_; rintro e _ ⟨rfl, u1, rfl⟩))
    go_loopw [9, 10] (fun o t wr => ∃ (t' x : Nat) (u : Later B W), t' < 256 ∧ x < 256 ∧ t = .int .i64 t' ∧ o = .int .i64 x ∧ wr = u.val ∧ Hid (subBits t' s) ∧ Hid (extTo m l s t' x)) (fun _ t _ => (intOf t).toNat)
    case atStart => exact ⟨s, 0, u1, hs256, by decide, rfl, rfl, rfl, subBits_refl s, extTo_start m l s⟩
    case round =>
      obtain ⟨t, x, u, ht, hx, rfl, rfl, rfl, H1, H2⟩ := hrel
      by_cases h0 : t = 0
      · have h0' := Lib.hid h0
        have d0 : ((t : Int) != 0) = false := by rw [h0]; rfl
        clear h0
        go_wp2
        go_ret2
        refine Ret.mk u ?_
        have := H2.out
        rw [h0'.out] at this
        rw [(extTo_end this).uniq HX.out]
        rfl
      · have hl1 := i64_low t ht
        have hl2 := i64_andNot s (low t) (by omega) (by have := low_lt t ht; omega)
        have hl3 := i64_drop1 t ht (by omega)
        have hh := hullOf_lt m l (nand s (low t)) hm
        have hl4 := i64_and (hullOf m l (nand s (low t))) (low t) (by omega) (by have := low_lt t ht; omega)
        have hl5 := i64_or x (low t) (by omega) (by have := low_lt t ht; omega)
        have HD := Lib.hid (drop1_lt t ht)
        have HL := Lib.hid (or_lt x (low t) hx (low_lt t ht))
        have d0 : ((t : Int) != 0) = true := by simp; omega
        have HM : Hid (drop1 t < t) := by obtain ⟨_, _, _, _, _, _, h⟩ := low_facts t ht h0; exact h
        have HB := Lib.hid (subBits_drop ht h0 H1.out)
        have HC := Lib.hid (fun u : Later B W => HH.out u (nand s (low t)) (nand_lt _ _ 8 hs256))
        have A1 := Lib.hid (extTo_hit hs256 ht h0 H1.out H2.out)
        have A2 := Lib.hid (extTo_miss hs256 ht h0 H1.out H2.out)
        by_cases hz : hullOf m l (nand s (low t)) &&& low t = 0
        · have d : (((hullOf m l (nand s (low t)) &&& low t : Nat) : Int) == 0) = true := by rw [hz]; rfl
          have HZ := Lib.hid hz; clear hz
          go_wp2_with (go_at_call 111; refine (HC.out _).mono ?_; rintro e _ ⟨rfl, u1, rfl⟩)
          go_roundw
          case rel => exact ⟨drop1 t, x ||| low t, _, HD.out, HL.out, rfl, rfl, rfl, HB, A1.out HZ.out⟩
          case measure => have := HM.out; simp [intOf]; omega
        · have d : (((hullOf m l (nand s (low t)) &&& low t : Nat) : Int) == 0) = false := beq_eq_false_iff_ne.2 (by omega)
          have HZ := Lib.hid hz; clear hz
          go_wp2_with (go_at_call 111; refine (HC.out _).mono ?_; rintro e _ ⟨rfl, u1, rfl⟩)
          go_roundw
          case rel => exact ⟨drop1 t, x, _, HD.out, by omega, rfl, rfl, rfl, HB, A2.out HZ.out⟩
          case measure => have := HM.out; simp [intOf]; omega
  · rw [if_neg g]
    clear h he g hX
    go_enter Try.func51, Try.ntmps51
    go_wp2_with (first | (go_at_call 110; refine HR.out.mono ?_; rintro e _ ⟨rfl, u1, rfl⟩))
    go_ret2
    exact Ret.mk _ rfl

/-- .. of those below k -/
def extK (m : Nat) (l : List Int) (s k x : Nat) : Prop := x < 256 ∧ ∀ i, i < 8 → (x.testBit i = true ↔ (i < k ∧ s.testBit i = true ∧ (hullOf m l (s - bit i)).testBit i = false))
theorem extK_hit {m : Nat} {l : List Int} {s k x : Nat} (hk : k < 8) (h : extK m l s k x) (h1 : s.testBit k = true) (h2 : (hullOf m l (s - bit k)).testBit k = false) : extK m l s (k + 1) (x ||| bit k) :=
  ⟨or_lt _ _ h.1 (bit_lt256 k hk), fun i hi => by
    rw [Nat.testBit_or, testBit_bit]
    by_cases c : k = i
    · subst c; simp [h1, h2]
    · simp only [c, decide_false, Bool.or_false]
      rw [h.2 i hi]
      constructor
      · rintro ⟨a, b⟩; exact ⟨by omega, b⟩
      · rintro ⟨a, b⟩; exact ⟨by omega, b⟩⟩
theorem extK_miss {m : Nat} {l : List Int} {s k x : Nat} (h : extK m l s k x) (h1 : ¬ (s.testBit k = true ∧ (hullOf m l (s - bit k)).testBit k = false)) : extK m l s (k + 1) x :=
  ⟨h.1, fun i hi => by
    rw [h.2 i hi]
    constructor
    · rintro ⟨a, b⟩; exact ⟨by omega, b⟩
    · rintro ⟨a, b⟩
      by_cases c : i = k
      · subst c; exact absurd b h1
      · exact ⟨by omega, b⟩⟩
theorem extK_end {m : Nat} {l : List Int} {s x : Nat} (hm : m ≤ 8) (hs : s < bit m) (h : extK m l s m x) : ExtIs m l s x := by
  have hb := bit_le m hm
  have hlt := (lt_pow_iff m s hm (by omega)).1 hs
  refine ⟨h.1, fun i hi => ?_⟩
  rw [h.2 i hi]
  constructor
  · rintro ⟨_, b⟩; exact b
  · rintro b; exact ⟨hlt i hi b.1, b⟩

set_option maxHeartbeats 1000000 in
theorem c_ends {B : Nat} {W : World} (u : Later B W) (m s X : Nat) (l : List Int) (a : Option Addr) (cap : Nat) (h : IntsAt B W a l) (hlen : l.length ≤ 4611686018427387904) (hf : isFam m l) (hs : s < bit m) (hX : ExtIs m l s X) :
    Calls Try.prog 49 #[.int .i64 m, .slice a l.length cap, .int .i64 s] u.val (Ret B W (.int .i64 X)) := by
  have hm : m ≤ 8 := by have := hf.2.1; omega
  have hb := bit_le m hm
  have HX := Lib.hid hX
  have HH := Lib.hid (fun (u : Later B W) (t : Nat) (ht2 : t < bit m) => c_refHull u m t l a cap h hlen hf ht2)
  clear h hf hX
  go_enter Try.func49, Try.ntmps49
  go_wp2
  go_loopw [7, 8] (fun o i wr => ∃ (k x : Nat) (u : Later B W), k ≤ m ∧ x < 256 ∧ i = .int .i64 k ∧ o = .int .i64 x ∧ wr = u.val ∧ Hid (extK m l s k x)) (fun _ i _ => m - (intOf i).toNat)
  case atStart => exact ⟨0, 0, u, by omega, by decide, rfl, rfl, rfl, ⟨by decide, fun i _ => by simp⟩⟩
  case round =>
    obtain ⟨k, x, u, hk, hx, rfl, rfl, rfl, H1⟩ := hrel
    by_cases hlt : k < m
    · have hbk := bit_lt k (by omega)
      have hbc := bit_cast k
      have hl5 := i64_or x (bit k) (by omega) (by omega)
      have HL := Lib.hid (or_lt x (bit k) hx (by omega))
      have HIn := Lib.hid (fun u : Later B W => c_in u s k (by omega) (by omega))
      have A1 := Lib.hid (extK_hit (by omega) H1.out)
      have A2 := Lib.hid (extK_miss H1.out)
      by_cases g1 : s.testBit k = true
      · have hle := bit_le_of_mem s k (by omega) (by omega) g1
        have hh := hullOf_lt m l (s - bit k) hm
        have HC := Lib.hid (HH.out · (s - bit k) (by omega))
        rw [show ((s - bit k : Nat) : Int) = (s : Int) - (bit k : Int) by omega] at HC
        have HIn2 := Lib.hid (fun u : Later B W => c_in u (hullOf m l (s - bit k)) k (by omega) (by omega))
        rw [g1] at HIn
        have G1 := Lib.hid g1; clear g1
        rcases btf ((hullOf m l (s - bit k)).testBit k) with g2 | g2
        · rw [g2] at HIn2
          have G2 := Lib.hid g2; clear g2
          go_wp2_with (first | (go_at_call 48; refine (HC.out _).mono ?_; rintro e _ ⟨rfl, u1, rfl⟩) | (go_at_call_of 21 (hullOf m l (s - bit k)); refine (HIn2.out _).mono ?_; rintro e _ ⟨rfl, u1, rfl⟩) | (go_at_call 21; refine (HIn.out _).mono ?_; rintro e _ ⟨rfl, u1, rfl⟩))
          go_roundw
          case rel => exact ⟨k+1, x, _, by omega, hx, by go_num, rfl, rfl, A2.out (fun h => by rw [G2.out] at h; cases h.2)⟩
          case measure => simp [intOf]; omega
        · rw [g2] at HIn2
          have G2 := Lib.hid g2; clear g2
          go_wp2_with (first | (go_at_call 48; refine (HC.out _).mono ?_; rintro e _ ⟨rfl, u1, rfl⟩) | (go_at_call_of 21 (hullOf m l (s - bit k)); refine (HIn2.out _).mono ?_; rintro e _ ⟨rfl, u1, rfl⟩) | (go_at_call 21; refine (HIn.out _).mono ?_; rintro e _ ⟨rfl, u1, rfl⟩))
          go_roundw
          case rel => exact ⟨k+1, x ||| bit k, _, by omega, HL.out, by go_num, rfl, rfl, A1.out G1.out G2.out⟩
          case measure => simp [intOf]; omega
      · have g1' : s.testBit k = false := by simpa using g1
        rw [g1'] at HIn
        have G1 := Lib.hid g1'; clear g1' g1
        go_wp2_with (first | (go_at_call 21; refine (HIn.out _).mono ?_; rintro e _ ⟨rfl, u1, rfl⟩))
        go_roundw
        case rel => exact ⟨k+1, x, _, by omega, hx, by go_num, rfl, rfl, A2.out (fun h => by rw [G1.out] at h; cases h.1)⟩
        case measure => simp [intOf]; omega
    · have hke : Hid (k = m) := Lib.hid (by omega)
      go_wp2
      go_ret
      refine Ret.mk u (vint ?_)
      have := H1.out
      rw [hke.out] at this
      rw [(extK_end hm hs this).uniq HX.out]

end Go.Proofs.Ytcljgnmlpfddiaa
