/-
  convex.First: the error; or the first order in which all can be taken.
-/
import Derived.Test.YtcljgnmlpfddiaaCount
import Derived.Test.YtcljgnmlpfddiaaConv4
namespace Go.Proofs.Ytcljgnmlpfddiaa
open Go.RowKit
set_option linter.unusedVariables false

theorem rem_none (m : Nat) : rem m 0 = m := by
  unfold rem
  rw [List.filter_eq_self.2 (fun i _ => by simp)]
  simp
def firstOf (m : Nat) (l : List Int) : List Int := (tak l m m 0).2
/-- where the walk of First stands -/
def firstAt (m : Nat) (l : List Int) (r s : Nat) (out : List Int) : Prop := s < bit m ∧ (s : Int) ∈ l ∧ rem m s = m - r ∧ out ++ (tak l m (rem m s) s).2 = firstOf m l
theorem firstAt_start {n : Int} {m : Nat} {l : List Int} (hm : m ≤ 8) (hg : Good n l) : firstAt m l 0 0 [] := ⟨by have := bit_le m hm; omega, hg.1, by rw [rem_none]; rfl, by rw [rem_none]; rfl⟩
theorem firstAt_len {m : Nat} {l : List Int} {r s : Nat} {out : List Int} (h : firstAt m l r s out) : out.length ≤ m := by
  have h1 := congrArg List.length h.2.2.2
  have h2 := tak_len l m m 0
  unfold firstOf at h1
  rw [List.length_append] at h1
  omega
theorem firstAt_step {n : Int} {m : Nat} {l : List Int} (hnm : n = m) (hf : isFam n l) (hg : Good n l) {r s i : Nat} {out : List Int} (hr : r < m) (h : firstAt m l r s out) (hi : nx l m s i) : firstAt m l (r + 1) (s + bit i) (out ++ [(i : Int)]) := by
  obtain ⟨h1, h2, h3, h4⟩ := h
  obtain ⟨a, b, c, d⟩ := tak_next hnm hf hg (f := m - r - 1) h1 (by omega) hi
  refine ⟨b, d, by omega, ?_⟩
  rw [c, List.append_assoc, ← h4, h3, show m - r = m - r - 1 + 1 by omega, a]
  rfl
theorem firstAt_next {n : Int} {m : Nat} {l : List Int} (hnm : n = m) (hf : isFam n l) (hg : Good n l) {r s : Nat} {out : List Int} (hr : r < m) (h : firstAt m l r s out) : ∃ i, nx l m s i := by
  have hm : m ≤ 8 := by have := hf.2.1; omega
  exact good_next hnm hf hg h.1 h.2.1 (fun e => by have := (rem_zero hm h.1).2 e; have := h.2.2.1; omega)
theorem firstAt_end {m : Nat} {l : List Int} {s : Nat} {out : List Int} (h : firstAt m l m s out) : out = firstOf m l := by
  obtain ⟨h1, h2, h3, h4⟩ := h
  rw [h3, Nat.sub_self] at h4
  have : (tak l m 0 s).2 = [] := by
    show (if s = bit m - 1 then (1, []) else (0, []) : Nat × List Int).2 = []
    split <;> rfl
  rw [this, List.append_nil] at h4
  exact h4

def firstPost (xs : List Int) (e : Int) (v : Value) (w : World) : Prop := ∃ v1, v = .tuple #[v1, .int .i64 e] ∧ Reads w.heap.size w v1 xs
theorem firstPost.mk {xs : List Int} {e : Int} {v1 : Value} {w : World} (h : Reads w.heap.size w v1 xs) : firstPost xs e (.tuple #[v1, .int .i64 e]) w := ⟨v1, rfl, h⟩

theorem Chk.zero {n : Int} {l : List Int} (h : ChkIs n l 0) : isFam n l ∧ Good n l := by
  have hf : isFam n l := by
    by_cases hf : isFam n l
    · exact hf
    · have := h.1 hf; omega
  refine ⟨hf, ?_⟩
  by_cases hg : Good n l
  · exact hg
  · have := h.2.1 hf hg; omega

set_option maxHeartbeats 2000000 in
theorem c_first {B : Nat} {W : World} (u : Later B W) (n : Int) (l : List Int) (a : Option Addr) (cap : Nat) (e : Int) (h : IntsAt B W a l) (hlen : l.length ≤ 4611686018427387904) (he : ChkIs n l e) :
    Calls Try.prog 53 #[.int .i64 n, .slice a l.length cap] u.val (RetP B W (firstPost (if e = 0 then firstOf n.toNat l else []) e)) := by
  have HC := Lib.hid (c_convexCheck u n l a cap e h hlen he)
  rcases ieq e 0 with ⟨g, d1, d2⟩ | ⟨g, d1, d2⟩
  case inr =>
    rw [if_neg g]
    clear h he g
    go_enter Try.func53, Try.ntmps53
    go_wp2_with (go_at_call 54; refine HC.out.mono ?_; rintro e _ ⟨rfl, u1, rfl⟩)
    go_ret2
    exact RetP.mk _ (firstPost.mk (Reads.nil _ _))
  subst g
  rw [if_pos rfl]
  obtain ⟨hf, hg⟩ := Chk.zero he
  obtain ⟨m, rfl⟩ := Int.eq_ofNat_of_zero_le hf.1
  have hm : m ≤ 8 := by have := hf.2.1; omega
  have hb := bit_le m hm
  have HI := Lib.hid h
  have HF := Lib.hid hf; have HG := Lib.hid hg
  have HR : Hid (rising l) := hf.2.2.rising
  have HST := Lib.hid (firstAt_start hm hg)
  clear h he hf hg
  show Calls _ _ _ _ (RetP B W (firstPost (firstOf m l) 0))
  go_enter Try.func53, Try.ntmps53
  go_wp2_with (go_at_call 54; refine HC.out.mono ?_; rintro e _ ⟨rfl, u1, rfl⟩)
  go_loopw [7, 8, 17] (fun o sv i wr => ∃ (r s : Nat) (out : List Int) (ad : Option Addr) (cp : Nat) (u : Later B W), r ≤ m ∧ s < 256 ∧ i = .int .i64 r ∧ sv = .int .i64 s ∧ o = .slice ad out.length cp ∧ wr = u.val ∧ Hid (Own B u.val ad cp out) ∧ Hid (firstAt m l r s out)) (fun _ _ i _ => m - (intOf i).toNat)
  case atStart => exact ⟨0, 0, [], none, 0, u1, by omega, by decide, rfl, rfl, rfl, rfl, Own.nil _ _, HST⟩
  case round =>
    obtain ⟨r, s, out, ad, cp, u, hr, hs, rfl, rfl, rfl, rfl, HO, HA⟩ := hrel
    by_cases hlt : r < m
    · have hI2 := HI.out.to u
      have HI2 := Lib.hid hI2; clear hI2
      have HL := Lib.hid (firstAt_len HA.out)
      go_wp2
      go_loopw [7, 8, 20] (fun o sv i wr => ∃ (j : Nat) (v : Later u.val.heap.size u.val), j ≤ m ∧ i = .int .i64 j ∧ sv = .int .i64 s ∧ o = .slice ad out.length cp ∧ wr = v.val ∧ Hid (∀ p, p < j → ¬ (s.testBit p = false ∧ ((s : Int) + (bit p : Int)) ∈ l))) (fun _ _ i _ => m - (intOf i).toNat)
      case atStart => exact ⟨0, Later.self _, by omega, rfl, rfl, rfl, rfl, fun p hp => by omega⟩
      case round =>
        obtain ⟨j, v, hj, rfl, rfl, rfl, rfl, HN⟩ := hrel
        by_cases hjm : j < m
        · have hbj := bit_lt j (by omega)
          have hbc := bit_cast j
          have hb1 := i64_bit s j hs (by omega)
          rcases btf (s.testBit j) with g1 | g1
          · rw [g1] at hb1
            have G1 := Lib.hid g1; clear g1
            go_wp2
            go_roundw
            case rel => exact ⟨j+1, v, by omega, by go_num, rfl, rfl, rfl, fun p hp => by
              by_cases e : p = j
              · subst e; intro h; rw [G1.out] at h; cases h.1
              · exact HN.out p (by omega)⟩
            case measure => simp [intOf]; omega
          · rw [g1] at hb1
            have hor := i64_or s (bit j) (by omega) (by omega)
            rw [or_bit s j hs (by omega) g1, show ((s + bit j : Nat) : Int) = (s : Int) + (bit j : Int) by omega] at hor
            have HH := Lib.hid (fun v : Later u.val.heap.size u.val => c_convexHas v l ((s : Int) + (bit j : Int)) a cap HI2.out hlen HR.out)
            have G1 := Lib.hid g1; clear g1
            by_cases g2 : ((s : Int) + (bit j : Int)) ∈ l
            · have HH2 := Lib.hid (fun v => dcall_t (HH.out v) g2); clear HH
              have HX : Hid (nx l m s j) := ⟨hjm, G1.out, g2, HN.out⟩
              clear g2
              have HX2 := Lib.hid (firstAt_step rfl HF.out HG.out hlt HA.out HX.out)
              go_wp2_with (first | (go_at_call 112; refine (HH2.out _).mono ?_; rintro e _ ⟨rfl, v1, rfl⟩) | (at_builtin; refine wpList_push (B := B) (W := W) (w := v1.val) (u.up v1).below (u.up v1).size rfl _ _ rfl out ad cp (j : Int) rfl (HO.out.keep v1.below) rfl (by have := HL.out; omega) ?_; intro u2 ad2 cp2 hown))
              go_roundw
              case rel => exact ⟨r+1, s + bit j, out ++ [(j : Int)], ad2, cp2, u2, by omega, by have := HX2.out.1; omega, by go_num, by go_num, by simp, rfl, hown, HX2⟩
              case measure => simp [intOf]; omega
            · have HH2 := Lib.hid (fun v => dcall_f (HH.out v) g2); clear HH
              have G2 := Lib.hid g2; clear g2
              go_wp2_with (first | (go_at_call 112; refine (HH2.out _).mono ?_; rintro e _ ⟨rfl, v1, rfl⟩))
              go_roundw
              case rel => exact ⟨j+1, v1, by omega, by go_num, rfl, rfl, rfl, fun p hp => by
                by_cases e : p = j
                · subst e; intro h; exact G2.out h.2
                · exact HN.out p (by omega)⟩
              case measure => simp [intOf]; omega
        · exfalso
          obtain ⟨i, hi⟩ := firstAt_next rfl HF.out HG.out hlt HA.out
          exact HN.out i (by have := hi.1; omega) ⟨hi.2.1, hi.2.2.1⟩
    · have hrm : r = m := by omega
      subst hrm
      have HE := Lib.hid (firstAt_end HA.out)
      go_wp2
      go_ret2
      refine RetP.mk _ (firstPost.mk ?_)
      rw [← HE.out]
      exact Reads.of_own HO.out

end Go.Proofs.Ytcljgnmlpfddiaa
