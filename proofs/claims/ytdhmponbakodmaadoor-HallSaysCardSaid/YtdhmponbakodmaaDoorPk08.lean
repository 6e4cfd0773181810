
/-
  axioms.Check.
  hall.Check, rotaref.Lists, rotaref.Several.
-/
import Derived.Test.YtdhmponbakodmaaDoorPk07
import Derived.Deep.CutRange
import Derived.Deep.CutBlock
import Derived.IntWalk
namespace Go.Proofs.YtdhmponbakodmaaDoor
open Go.RowKit
set_option linter.unusedVariables false

def toN (l : List Int) : List Nat := l.map Int.toNat
theorem toN_len (l : List Int) : (toN l).length = l.length := by simp [toN]
theorem toN_getD (l : List Int) (i : Nat) : (toN l).getD i 0 = (l.getD i 0).toNat := by
  unfold toN
  by_cases h : i < l.length
  · simp [h]
  · simp [h]
theorem ints_toN {l : List Int} (h : ∀ i, i < l.length → 0 ≤ l.getD i 0) : ints (toN l) = l := by
  apply List.ext_getElem
  · simp [ints, toN]
  · intro i h1 h2
    have := h i h2
    simp [h2] at this
    simp [ints, toN]
    omega
theorem fam_ints {n : Int} {l : List Int} (h : isFam n l) : ints (toN l) = l := ints_toN (fun i hi => (h.2.2 i hi).1)
theorem fam_lt {n : Int} {l : List Int} (h : isFam n l) : ∀ b, b ∈ toN l → b < bit n.toNat := by
  intro b hb
  obtain ⟨i, hi, e⟩ := List.getElem_of_mem hb
  have hi' : i < l.length := by rw [toN_len] at hi; exact hi
  have h1 := h.2.2 i hi'
  have h2 : b = (l.getD i 0).toNat := by rw [← toN_getD, ← e]; simp [hi]
  have h3 := bit_le n.toNat (by have := h.2.1; omega)
  have h4 : all n = ((bit n.toNat - 1 : Nat) : Int) := rfl
  rw [h4] at h1
  omega
/-- a family of sets of one size, not none -/
def okM (n : Int) (l : List Int) : Prop := isFam n l ∧ l ≠ [] ∧ ∀ i, i < (toN l).length → sz ((toN l).getD i 0) = sz ((toN l).getD 0 0)
/-- what the check of a matroid answers -/
def MatIs (n : Int) (l : List Int) (e : Int) : Prop := (¬ okM n l → e = 1) ∧ (okM n l → ¬ Exch (toN l) → e = 3) ∧ (okM n l → Exch (toN l) → e = 0)
theorem MatIs.ex (n : Int) (l : List Int) : ∃ e, MatIs n l e := by
  by_cases h : okM n l
  · by_cases g : Exch (toN l)
    · exact ⟨0, fun x => absurd h x, fun _ x => absurd g x, fun _ _ => rfl⟩
    · exact ⟨3, fun x => absurd h x, fun _ _ => rfl, fun _ x => absurd x g⟩
  · exact ⟨1, fun _ => rfl, fun x => absurd x h, fun x => absurd x h⟩
theorem exch_getD {L : List Nat} : Exch L ↔ ∀ i, i < L.length → ∀ j, j < L.length → exP L (L.getD i 0) (L.getD j 0) := by
  constructor
  · intro h i hi j hj
    have h1 : L.getD i 0 ∈ L := by simp [hi]
    have h2 : L.getD j 0 ∈ L := by simp [hj]
    exact h _ h1 _ h2
  · intro h A hA B hB
    obtain ⟨i, hi, e1⟩ := List.getElem_of_mem hA
    obtain ⟨j, hj, e2⟩ := List.getElem_of_mem hB
    have := h i hi j hj
    have e3 : L.getD i 0 = A := by simp [hi, e1]
    have e4 : L.getD j 0 = B := by simp [hj, e2]
    rw [e3, e4] at this
    exact this
theorem okM.fam8 {n : Int} {l : List Int} (h : okM n l) : Fam8 (toN l) (sz ((toN l).getD 0 0)) where
  lt := fun b hb => by
    have := fam_lt h.1 b hb
    have h3 := bit_le n.toNat (by have := h.1.2.1; omega)
    omega
  eq := fun b hb => by
    obtain ⟨i, hi, e⟩ := List.getElem_of_mem hb
    have := h.2.2 i hi
    have e3 : (toN l).getD i 0 = b := by simp [hi, e]
    rw [e3] at this
    exact this

end Go.Proofs.YtdhmponbakodmaaDoor

namespace Go.Proofs.YtdhmponbakodmaaDoor
open Go.RowKit
set_option linter.unusedVariables false

/-- a list of sets of n elements -/
def okL (n : Int) (l : List Int) : Prop := 0 ≤ n ∧ n ≤ 8 ∧ ∀ i, i < l.length → isSet n (l.getD i 0)
/-- what the check of a list of sets answers -/
def LisIs (n : Int) (l : List Int) (e : Int) : Prop := (¬ okL n l → e = 1) ∧ (okL n l → 8 < l.length → e = 2) ∧ (okL n l → l.length ≤ 8 → e = 0)
theorem LisIs.ex (n : Int) (l : List Int) : ∃ e, LisIs n l e := by
  by_cases h : okL n l
  · by_cases g : l.length ≤ 8
    · exact ⟨0, fun x => absurd h x, fun _ x => by omega, fun _ _ => rfl⟩
    · exact ⟨2, fun x => absurd h x, fun _ _ => rfl, fun _ x => absurd x g⟩
  · exact ⟨1, fun _ => rfl, fun x => absurd x h, fun x => absurd x h⟩
theorem LisIs.zero {n : Int} {l : List Int} (h : LisIs n l 0) : okL n l ∧ l.length ≤ 8 := by
  by_cases hk : okL n l
  · by_cases g : l.length ≤ 8
    · exact ⟨hk, g⟩
    · have := h.2.1 hk (by omega); omega
  · have := h.1 hk; omega

set_option maxRecDepth 100000 in
set_option maxHeartbeats 4000000 in
theorem c_hallCheck {B : Nat} {W : World} (u : Later B W) (n : Int) (l : List Int) (a : Option Addr) (cap : Nat) (e : Int) (h : IntsAt B W a l) (hlen : l.length ≤ 4611686018427387904) (he : LisIs n l e) :
    Calls Tryd.prog 9 #[.int .i64 n, .slice a l.length cap] u.val (Ret B W (.int .i64 e)) := by
  have HI := Lib.hid h
  have HE := Lib.hid he
  clear h he
  by_cases h1 : n < 0
  · have e1 := HE.out.1 (fun h => by have := h.1; omega)
    subst e1
    have d1 : decide (n < 0) = true := decide_eq_true h1
    go_enter Tryd.func9, Tryd.ntmps9
    go_wp2
    go_ret
    exact Ret.mk u rfl
  have d1 : decide (n < 0) = false := decide_eq_false h1
  by_cases h2 : 8 < n
  · have e1 := HE.out.1 (fun h => by have := h.2.1; omega)
    subst e1
    have d2 : decide ((8 : Int) < n) = true := decide_eq_true h2
    go_enter Tryd.func9, Tryd.ntmps9
    go_wp2
    go_ret
    exact Ret.mk u rfl
  have d2 : decide ((8 : Int) < n) = false := decide_eq_false h2
  obtain ⟨m, rfl⟩ := Int.eq_ofNat_of_zero_le (show 0 ≤ n by omega)
  have hm : m ≤ 8 := by omega
  have hb := bit_le m hm
  have hbc := bit_cast m
  have HA : Hid (all (m : Int) = (bit m : Int) - 1) := Lib.hid (by rw [all_nat]; omega)
  clear h1 h2
  go_enter Tryd.func9, Tryd.ntmps9
  go_wp2
  clear d1 d2
  go_loopw [15] (fun i wr => ∃ (k : Nat) (v : Later B W), k ≤ l.length ∧ i = .int .i64 k ∧ wr = v.val ∧ Hid (∀ i, i < k → isSet (m : Int) (l.getD i 0))) (fun i _ => l.length - (intOf i).toNat)
  case atStart => exact ⟨0, u, by omega, rfl, rfl, Lib.hid (fun i hi => by omega)⟩
  case round =>
    obtain ⟨k, v, hk, rfl, rfl, HK⟩ := hrel
    by_cases hlt : k < l.length
    · obtain ⟨bb, off, rfl, hbB, hcell⟩ := HI.out.at (k := k) hlt
      have c0 := hcell v k hlt
      have HNx : Hid (isSet (m : Int) (l.getD k 0) → ∀ i, i < k + 1 → isSet (m : Int) (l.getD i 0)) := Lib.hid (fun h i hi => by
        by_cases c : i = k
        · subst c; exact h
        · exact HK.out i (by omega))
      have HBd : Hid (¬ isSet (m : Int) (l.getD k 0) → e = 1) := Lib.hid (fun h => HE.out.1 (fun g => h (g.2.2 k hlt)))
      clear hcell HK
      generalize l.getD k 0 = x at *
      rcases ilt x 0 with ⟨g1, d1⟩ | ⟨g1, d1⟩
      · have e1 := HBd.out (fun h => by have := h.2.2.1; omega)
        subst e1
        go_wp2
        go_ret
        exact Ret.mk v rfl
      · rcases ile (bit m : Int) x with ⟨g2, d2⟩ | ⟨g2, d2⟩
        · have e1 := HBd.out (fun h => by have := h.2.2.2; have := HA.out; omega)
          subst e1
          go_wp2
          go_ret
          exact Ret.mk v rfl
        · have HN := Lib.hid (HNx.out ⟨by omega, by omega, g1, by have := HA.out; omega⟩)
          clear HNx HBd
          go_wp2
          go_roundw
          case rel => exact ⟨k+1, v, by omega, by go_num, rfl, HN⟩
          case measure => simp [intOf]; omega
    · have HOk : Hid (okL (m : Int) l) := Lib.hid ⟨by omega, by omega, fun i hi => HK.out i (by omega)⟩
      clear HK
      by_cases h8 : l.length ≤ 8
      · have e1 := HE.out.2.2 HOk.out h8
        subst e1
        have d1 : decide ((8 : Int) < (l.length : Int)) = false := decide_eq_false (by omega)
        have d2 : decide (8 < l.length) = false := decide_eq_false (by omega)
        go_wp2
        go_ret
        exact Ret.mk v rfl
      · have e1 := HE.out.2.1 HOk.out (by omega)
        subst e1
        have d1 : decide ((8 : Int) < (l.length : Int)) = true := decide_eq_true (by omega)
        have d2 : decide (8 < l.length) = true := decide_eq_true (by omega)
        go_wp2
        go_ret
        exact Ret.mk v rfl

set_option maxRecDepth 100000 in
set_option maxHeartbeats 4000000 in
theorem c_lists {B : Nat} {W : World} (u : Later B W) (n : Int) (l : List Int) (a : Option Addr) (cap : Nat) (e : Int) (h : IntsAt B W a l) (hlen : l.length ≤ 4611686018427387904) (he : LisIs n l e) :
    Calls Tryd.prog 4 #[.int .i64 n, .slice a l.length cap] u.val (Ret B W (.int .i64 e)) := by
  have HI := Lib.hid h
  have HE := Lib.hid he
  clear h he
  by_cases h1 : n < 0
  · have e1 := HE.out.1 (fun h => by have := h.1; omega)
    subst e1
    have d1 : decide (n < 0) = true := decide_eq_true h1
    go_enter Tryd.func4, Tryd.ntmps4
    go_wp2
    go_ret
    exact Ret.mk u rfl
  have d1 : decide (n < 0) = false := decide_eq_false h1
  by_cases h2 : 8 < n
  · have e1 := HE.out.1 (fun h => by have := h.2.1; omega)
    subst e1
    have d2 : decide ((8 : Int) < n) = true := decide_eq_true h2
    go_enter Tryd.func4, Tryd.ntmps4
    go_wp2
    go_ret
    exact Ret.mk u rfl
  have d2 : decide ((8 : Int) < n) = false := decide_eq_false h2
  have KS := Lib.hid (fun (v : Later B W) (s : Int) => c_isSet v n s)
  have hn : 0 ≤ n ∧ n ≤ 8 := by omega
  have HNn := Lib.hid hn
  clear h1 h2 hn
  go_enter Tryd.func4, Tryd.ntmps4
  go_wp2
  clear d1 d2
  go_loopw [5] (fun i wr => ∃ (k : Nat) (v : Later B W), k ≤ l.length ∧ i = .int .i64 k ∧ wr = v.val ∧ Hid (∀ i, i < k → isSet n (l.getD i 0))) (fun i _ => l.length - (intOf i).toNat)
  case atStart => exact ⟨0, u, by omega, rfl, rfl, Lib.hid (fun i hi => by omega)⟩
  case round =>
    obtain ⟨k, v, hk, rfl, rfl, HK⟩ := hrel
    by_cases hlt : k < l.length
    · obtain ⟨bb, off, rfl, hbB, hcell⟩ := HI.out.at (k := k) hlt
      have c0 := hcell v k hlt
      have HNx : Hid (isSet n (l.getD k 0) → ∀ i, i < k + 1 → isSet n (l.getD i 0)) := Lib.hid (fun h i hi => by
        by_cases c : i = k
        · subst c; exact h
        · exact HK.out i (by omega))
      have HBd : Hid (¬ isSet n (l.getD k 0) → e = 1) := Lib.hid (fun h => HE.out.1 (fun g => h (g.2.2 k hlt)))
      clear hcell HK
      generalize l.getD k 0 = x at *
      by_cases g : isSet n x
      · have K1 := Lib.hid (fun v => dcall_t (KS.out v x) g)
        have HN := Lib.hid (HNx.out g)
        clear g HNx HBd
        go_wp2_with (first | (go_at_call 19; ((with_reducible refine (K1.out _).mono ?_); rintro e _ ⟨rfl, v2, rfl⟩)))
        go_roundw
        case rel => exact ⟨k+1, v2, by omega, by go_num, rfl, HN⟩
        case measure => simp [intOf]; omega
      · have K1 := Lib.hid (fun v => dcall_f (KS.out v x) g)
        have e1 := HBd.out g
        subst e1
        clear g HNx HBd
        go_wp2_with (first | (go_at_call 19; ((with_reducible refine (K1.out _).mono ?_); rintro e _ ⟨rfl, v2, rfl⟩)))
        go_ret
        exact Ret.mk v2 rfl
    · have HOk : Hid (okL n l) := Lib.hid ⟨HNn.out.1, HNn.out.2, fun i hi => HK.out i (by omega)⟩
      clear HK
      by_cases h8 : l.length ≤ 8
      · have e1 := HE.out.2.2 HOk.out h8
        subst e1
        have d1 : decide ((8 : Int) < (l.length : Int)) = false := decide_eq_false (by omega)
        have d2 : decide (8 < l.length) = false := decide_eq_false (by omega)
        go_wp2
        go_ret
        exact Ret.mk v rfl
      · have e1 := HE.out.2.1 HOk.out (by omega)
        subst e1
        have d1 : decide ((8 : Int) < (l.length : Int)) = true := decide_eq_true (by omega)
        have d2 : decide (8 < l.length) = true := decide_eq_true (by omega)
        go_wp2
        go_ret
        exact Ret.mk v rfl

/-- several sets of a list together -/
def sevTo (ls : List Nat) (s : Nat) : Nat → Nat
  | 0 => 0
  | k + 1 => if s.testBit k = true then sevTo ls s k ||| ls.getD k 0 else sevTo ls s k
theorem sevTo_lt {ls : List Nat} {m : Nat} (h : ∀ k, k < ls.length → ls.getD k 0 < bit m) (s : Nat) {k : Nat} (hk : k ≤ ls.length) : sevTo ls s k < bit m := by
  induction k with
  | zero => show 0 < 2 ^ m; exact Nat.pow_pos (by decide)
  | succ k ih =>
    unfold sevTo
    split
    · exact Nat.or_lt_two_pow (ih (by omega)) (h k (by omega))
    · exact ih (by omega)
def sev (ls : List Nat) (s : Nat) : Nat := sevTo ls s ls.length

set_option maxRecDepth 100000 in
set_option maxHeartbeats 4000000 in
theorem c_several {B : Nat} {W : World} (u : Later B W) (m s : Nat) (ls : List Nat) (a : Option Addr) (cap : Nat) (h : IntsAt B W a (ints ls)) (h8 : ls.length ≤ 8) (hm : m ≤ 8) (hs : s < 256) (hls : ∀ k, k < ls.length → ls.getD k 0 < bit m) :
    Calls Tryd.prog 12 #[.slice a (ints ls).length cap, .int .i64 s] u.val (Ret B W (.int .i64 (sev ls s))) := by
  have hb := bit_le m hm
  have HI := Lib.hid h
  have HL := Lib.hid (fun k hk => sevTo_lt hls s (k := k) hk)
  have HLs := Lib.hid hls
  have HStep : Hid (∀ k, sevTo ls s (k+1) = if s.testBit k = true then sevTo ls s k ||| ls.getD k 0 else sevTo ls s k) := Lib.hid (fun k => rfl)
  have HFin : Hid (sev ls s = sevTo ls s ls.length) := Lib.hid rfl
  rw [ints_len]
  clear h hls
  generalize sev ls s = r at *
  go_enter Tryd.func12, Tryd.ntmps12
  go_wp2
  go_loopw [5, 6] (fun o i wr => ∃ (k : Nat) (v : Later B W), k ≤ ls.length ∧ i = .int .i64 k ∧ o = .int .i64 (sevTo ls s k) ∧ wr = v.val) (fun _ i _ => ls.length - (intOf i).toNat)
  case atStart => exact ⟨0, u, by omega, rfl, rfl, rfl⟩
  case round =>
    obtain ⟨k, v, hk, rfl, rfl, rfl⟩ := hrel
    have hlk := HL.out k hk
    have HS := Lib.hid (HStep.out k)
    by_cases hlt : k < ls.length
    · obtain ⟨bb, off, rfl, hbB, hcell⟩ := HI.out.at (k := k) (by rw [ints_len]; exact hlt)
      have c0 : ∀ v : Later B W, v.val.cell? ⟨bb, off + k, none⟩ = some (.int .i64 ((ls.getD k 0 : Nat) : Int)) := fun v => by rw [← ints_getD]; exact hcell v k (by rw [ints_len]; exact hlt)
      have hx := HLs.out k hlt
      clear hcell
      generalize ls.getD k 0 = x at *
      generalize sevTo ls s k = c at *
      have KI := Lib.hid (fun v : Later B W => c_in v s k (by omega) (by omega))
      have o1 := i64_or c x (by omega) (by omega)
      rcases btf (s.testBit k) with g | g
      · rw [g] at KI
        rw [if_pos g] at HS
        clear g
        go_wp2_with (first | (go_at_call 24; ((with_reducible refine (KI.out _).mono ?_); rintro e _ ⟨rfl, v2, rfl⟩)))
        go_roundw
        case rel => exact ⟨k+1, v2, by omega, by go_num, vint (by rw [HS.out]), rfl⟩
        case measure => simp [intOf]; omega
      · rw [g] at KI
        rw [if_neg (by rw [g]; decide)] at HS
        clear g
        go_wp2_with (first | (go_at_call 24; ((with_reducible refine (KI.out _).mono ?_); rintro e _ ⟨rfl, v2, rfl⟩)))
        go_roundw
        case rel => exact ⟨k+1, v2, by omega, by go_num, vint (by rw [HS.out]), rfl⟩
        case measure => simp [intOf]; omega
    · have hke : Hid (k = ls.length) := Lib.hid (by omega)
      generalize hc : sevTo ls s k = c at *
      go_wp2
      go_ret
      exact Ret.mk v (vint (by rw [HFin.out, ← hke.out, hc]))

end Go.Proofs.YtdhmponbakodmaaDoor
