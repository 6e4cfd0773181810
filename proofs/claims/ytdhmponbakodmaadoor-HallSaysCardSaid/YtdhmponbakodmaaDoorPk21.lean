
/-
  Sets that have too few elements together; the fewest sets and elements that meet all. No program in sight.
  hall.Bar, hall.Lines, rotaref.Matching.
-/
import Derived.Test.YtdhmponbakodmaaDoorPk16
import Derived.Test.YtdhmponbakodmaaDoorPk20
import Derived.Test.YtdhmponbakodmaaDoorPk18
namespace Go.Proofs.YtdhmponbakodmaaDoor
set_option linter.unusedVariables false

/-- sets that have too few elements together -/
def barP (ls : List Nat) (s : Nat) : Prop := sz (sev ls s) < sz s
instance (ls : List Nat) (s : Nat) : Decidable (barP ls s) := by unfold barP; infer_instance
/-- the first such -/
def fbT (ls : List Nat) : Nat → Int
  | 0 => -1
  | k + 1 => if fbT ls k < 0 ∧ barP ls k then (k : Int) else fbT ls k
theorem fbT_spec (ls : List Nat) (k : Nat) : (fbT ls k = -1 ∧ ∀ z, z < k → ¬ barP ls z) ∨ ∃ b : Nat, b < k ∧ fbT ls k = (b : Int) ∧ barP ls b ∧ ∀ z, z < b → ¬ barP ls z := by
  induction k with
  | zero => exact .inl ⟨rfl, fun z hz => by omega⟩
  | succ k ih =>
    simp only [fbT]
    rcases ih with ⟨h1, h2⟩ | ⟨b, h1, h2, h3, h4⟩
    · split
      case isTrue c => exact .inr ⟨k, by omega, rfl, c.2, h2⟩
      case isFalse c =>
        refine .inl ⟨h1, fun z hz => ?_⟩
        by_cases e : z = k
        · subst e; exact fun hp => c ⟨by omega, hp⟩
        · exact h2 z (by omega)
    · rw [if_neg (by rintro ⟨c, _⟩; omega)]
      exact .inr ⟨b, by omega, h2, h3, h4⟩
theorem fb_bar (ls : List Nat) (q : Nat) : BarIs q (barP ls) (max (fbT ls (bit q)) 0) (if 0 ≤ fbT ls (bit q) then 0 else 5) := by
  rcases fbT_spec ls (bit q) with ⟨h1, h2⟩ | ⟨b, h1, h2, h3, h4⟩
  · rw [h1]; exact .inr ⟨h2, by decide, by decide⟩
  · rw [h2]; exact .inl ⟨b, h1, h3, h4, by omega, by rw [if_pos (by omega)]⟩

/-- what the sets that are not in s have together -/
def cov (ls : List Nat) (s : Nat) : Nat := sev ls (nand (bit ls.length - 1) s)
def covT (ls : List Nat) (s : Nat) : Nat → Nat
  | 0 => 0
  | k + 1 => if s.testBit k = true then covT ls s k else covT ls s k ||| ls.getD k 0
theorem covT_eq (ls : List Nat) (s : Nat) : ∀ k, k ≤ ls.length → covT ls s k = sevTo ls (nand (bit ls.length - 1) s) k := by
  intro k
  induction k with
  | zero => intro _; rfl
  | succ k ih =>
    intro hk
    have e : (nand (bit ls.length - 1) s).testBit k = !s.testBit k := by
      rw [nand_testBit, testBit_all, decide_eq_true (by omega)]; rfl
    simp only [covT, sevTo]
    rw [ih (by omega), e]
    cases s.testBit k <;> simp
/-- the first of the fewest sets and elements that meet all -/
def lnT (ls : List Nat) : Nat → Nat × Nat
  | 0 => (0, sev ls (bit ls.length - 1))
  | s + 1 => if sz s + sz (cov ls s) < sz (lnT ls s).1 + sz (lnT ls s).2 then (s, cov ls s) else lnT ls s
theorem lnT_one (ls : List Nat) : lnT ls 1 = (0, cov ls 0) := by
  have e : nand (bit ls.length - 1) 0 = bit ls.length - 1 := by
    apply Nat.eq_of_testBit_eq
    intro i
    rw [nand_testBit]; simp
  have e2 : cov ls 0 = sev ls (bit ls.length - 1) := by unfold cov; rw [e]
  rw [e2]
  show (if sz 0 + sz (cov ls 0) < sz (lnT ls 0).1 + sz (lnT ls 0).2 then (0, cov ls 0) else lnT ls 0) = _
  split
  · rw [e2]
  · rfl
theorem lnT_lt {n : Nat} {ls : List Nat} (hls : ∀ q, q < ls.length → ls.getD q 0 < bit n) : ∀ t, (lnT ls t).1 ≤ t ∧ (lnT ls t).2 < bit n := by
  intro t
  induction t with
  | zero => exact ⟨Nat.le_refl _, sevTo_lt hls _ (Nat.le_refl _)⟩
  | succ t ih =>
    simp only [lnT]
    split
    · exact ⟨by show t ≤ t + 1; omega, sevTo_lt hls _ (Nat.le_refl _)⟩
    · exact ⟨by omega, ih.2⟩
theorem nand_sub {q s : Nat} (hq : q ≤ 8) (hs : s < bit q) : nand (bit q - 1) s = bit q - 1 - s := by
  have : ∀ q : Fin 9, ∀ s : Fin 256, s.val < bit q.val → nand (bit q.val - 1) s.val = bit q.val - 1 - s.val := by decide +kernel
  have hb := bit_le q hq
  exact this ⟨q, by omega⟩ ⟨s, by omega⟩ hs

end Go.Proofs.YtdhmponbakodmaaDoor

namespace Go.Proofs.YtdhmponbakodmaaDoor
open Go.RowKit
set_option linter.unusedVariables false

set_option maxRecDepth 100000 in
set_option maxHeartbeats 8000000 in
theorem c_bar {B : Nat} {W : World} (u : Later B W) (m : Nat) (hm : m ≤ 8) (ls : List Nat) (b : Option Addr) (capb : Nat) (x e : Int)
    (hb : IntsAt B W b (ints ls)) (h8 : ls.length ≤ 8) (hls : ∀ k, k < ls.length → ls.getD k 0 < bit m) (hLs : LisIs (m : Int) (ints ls) 0) (hB : BarIs ls.length (barP ls) x e) :
    Calls Tryd.prog 7 #[.int .i64 m, .slice b ls.length capb] u.val (Ret B W (.tuple #[.int .i64 x, .int .i64 e])) := by
  have hbm := bit_le m hm
  have hbl := bit_le ls.length h8
  have hblc := bit_cast ls.length
  have KH := Lib.hid (fun v : Later B W => c_hallCheck v m (ints ls) b capb 0 hb (by rw [ints_len]; omega) hLs)
  rw [ints_len] at KH
  have HIb := Lib.hid hb
  have HB := Lib.hid hB
  have HSl := Lib.hid (fun s k hk => sevTo_lt hls s (k := k) hk)
  have HLs := Lib.hid hls
  have HBc : Hid (∀ s, barP ls s ↔ sz (sevTo ls s ls.length) < sz s) := Lib.hid (fun s => Iff.rfl)
  have HSS : Hid (∀ s k, sevTo ls s (k+1) = if s.testBit k = true then sevTo ls s k ||| ls.getD k 0 else sevTo ls s k) := Lib.hid (fun s k => rfl)
  clear hb hB hls hLs
  generalize barP ls = P at *
  go_enter Tryd.func7, Tryd.ntmps7
  go_upto_region 4 with (first | (go_at_call 9; ((with_reducible refine (KH.out _).mono ?_); rintro e _ ⟨rfl, v1, rfl⟩)))
  go_wp2
  go_loopw [20] (fun i wr => ∃ (s : Nat) (v : Later B W), s ≤ bit ls.length ∧ i = .int .i64 s ∧ wr = v.val ∧ Hid (∀ z, z < s → ¬ P z)) (fun i _ => bit ls.length - (intOf i).toNat)
  case atStart => exact ⟨0, v1, by omega, rfl, rfl, Lib.hid (fun z hz => by omega)⟩
  case round =>
    obtain ⟨s, v, hs, rfl, rfl, HN⟩ := hrel
    rcases nlt s (bit ls.length) with ⟨hlt, d0⟩ | ⟨hlt, d0⟩
    case inr =>
      have d0' : decide ((s : Int) < (bit ls.length : Int)) = false := decide_eq_false (by omega)
      obtain ⟨rfl, rfl⟩ := HB.out.miss (fun z hz => HN.out z (by omega))
      clear HB HN
      go_wp2
      go_ret2
      exact Ret.mk v rfl
    have d0' : decide ((s : Int) < (bit ls.length : Int)) = true := decide_eq_true (by omega)
    have HHit : Hid (P s → x = s ∧ e = 0) := Lib.hid (fun h => HB.out.hit hlt h HN.out)
    have HNx : Hid (¬ P s → ∀ z, z < s + 1 → ¬ P z) := Lib.hid (fun h z hz => by
      by_cases c : z = s
      · subst c; exact h
      · exact HN.out z (by omega))
    have HP := Lib.hid (HBc.out s)
    have HSs := Lib.hid (HSS.out s)
    have HSk := Lib.hid (HSl.out s)
    clear HN
    go_wp2
    clear d0 d0'
    go_loopw [8, 25] (fun o i wr => ∃ (k : Nat) (v : Later B W), k ≤ ls.length ∧ i = .int .i64 k ∧ o = .int .i64 (sevTo ls s k) ∧ wr = v.val) (fun _ i _ => ls.length - (intOf i).toNat)
    case atStart => exact ⟨0, v, by omega, rfl, rfl, rfl⟩
    case round =>
      obtain ⟨k, v, hk, rfl, rfl, rfl⟩ := hrel
      have hlk := HSk.out k hk
      by_cases hlt2 : k < ls.length
      · have HS := Lib.hid (HSs.out k)
        obtain ⟨bb, off, rfl, hbB, hcell⟩ := HIb.out.at (k := k) (by rw [ints_len]; exact hlt2)
        have c0 : ∀ v : Later B W, v.val.cell? ⟨bb, off + k, none⟩ = some (.int .i64 ((ls.getD k 0 : Nat) : Int)) := fun v => by rw [← ints_getD]; exact hcell v k (by rw [ints_len]; exact hlt2)
        have hx := HLs.out k hlt2
        clear hcell
        generalize ls.getD k 0 = x0 at *
        generalize sevTo ls s k = c0' at *
        have ib := i64_bit s k (by omega) (by omega)
        have bk := bit_cast k
        have o1 := i64_or c0' x0 (by omega) (by omega)
        have o2 : bits .or .i64 (c0' : Int) 0 = (c0' : Int) := by have := i64_or c0' 0 (by omega) (by omega); simpa using this
        have w1 := IntWalk.i64_in (x0 : Int) (by omega)
        have w2 := IntWalk.i64_in (0 : Int) (by omega)
        rcases btf (s.testBit k) with g1 | g1
        · rw [g1] at ib
          rw [if_pos g1] at HS
          clear g1
          go_wp2
          go_roundw
          case rel => exact ⟨k+1, v, by omega, by go_num, vint (by rw [HS.out]), rfl⟩
          case measure => simp [intOf]; omega
        · rw [g1] at ib
          rw [if_neg (by rw [g1]; decide)] at HS
          clear g1
          go_wp2
          go_roundw
          case rel => exact ⟨k+1, v, by omega, by go_num, vint (by rw [HS.out]), rfl⟩
          case measure => simp [intOf]; omega
      · have hke : k = ls.length := by omega
        subst hke
        have hz := sz_le s
        have hz2 := sz_le (sevTo ls s ls.length)
        have KO1 := Lib.hid (fun v : Later B W => c_ones v (sevTo ls s ls.length) (by omega))
        have KO2 := Lib.hid (fun v : Later B W => c_ones v s (by omega))
        clear HSk HSs
        generalize hte : sevTo ls s ls.length = t at *
        rcases nlt (sz t) (sz s) with ⟨g1, d1⟩ | ⟨g1, d1⟩
        · have d2 : decide ((sz t : Int) < (sz s : Int)) = true := decide_eq_true (by omega)
          obtain ⟨rfl, rfl⟩ := HHit.out (HP.out.2 (by omega))
          clear HHit HNx HP HB g1 hte
          generalize sz t = zt at *
          generalize sz s = zs at *
          go_wp2_with (first | (go_at_call 22; (with_reducible refine (KO1.out _).mono ?_); rintro e _ ⟨rfl, v2, rfl⟩) | (go_at_call 22; (with_reducible refine (KO2.out _).mono ?_); rintro e _ ⟨rfl, v3, rfl⟩))
          go_ret2
          exact Ret.mk v3 rfl
        · have d2 : decide ((sz t : Int) < (sz s : Int)) = false := decide_eq_false (by omega)
          have HN2 := Lib.hid (HNx.out (fun h => by have := HP.out.1 h; omega))
          clear HHit HNx HP g1 hte
          generalize sz t = zt at *
          generalize sz s = zs at *
          go_wp2_with (first | (go_at_call 22; (with_reducible refine (KO1.out _).mono ?_); rintro e _ ⟨rfl, v2, rfl⟩) | (go_at_call 22; (with_reducible refine (KO2.out _).mono ?_); rintro e _ ⟨rfl, v3, rfl⟩))
          go_roundw
          case rel => exact ⟨s+1, v3, by omega, by go_num, rfl, HN2⟩
          case measure => simp [intOf]; omega

/-- what stands in Lines' three variables behind t rounds -/
def LnS (ls : List Nat) (n t : Nat) (b r c : Int) : Prop := (t = 0 ∧ b = n + ls.length + 1 ∧ r = 0 ∧ c = 0) ∨ (1 ≤ t ∧ b = (sz (lnT ls t).1 : Int) + sz (lnT ls t).2 ∧ r = (lnT ls t).1 ∧ c = (lnT ls t).2)
theorem LnS.yes {ls : List Nat} {n t : Nat} {b r c : Int} (hn : n ≤ 8) (hls : ∀ q, q < ls.length → ls.getD q 0 < bit n) (h : LnS ls n t b r c) (g : (sz t : Int) + sz (cov ls t) < b) : LnS ls n (t + 1) ((sz t : Int) + sz (cov ls t)) t (cov ls t) := by
  refine .inr ⟨by omega, ?_⟩
  rcases h with ⟨rfl, _⟩ | ⟨h1, h2, _⟩
  · rw [lnT_one]; exact ⟨rfl, rfl, rfl⟩
  · have : lnT ls (t + 1) = (t, cov ls t) := by simp only [lnT]; rw [if_pos (by omega)]
    rw [this]; exact ⟨rfl, rfl, rfl⟩
theorem LnS.no {ls : List Nat} {n t : Nat} {b r c : Int} (hn : n ≤ 8) (hls : ∀ q, q < ls.length → ls.getD q 0 < bit n) (h : LnS ls n t b r c) (g : ¬ (sz t : Int) + sz (cov ls t) < b) : LnS ls n (t + 1) b r c := by
  rcases h with ⟨rfl, h2, _⟩ | ⟨h1, h2, h3, h4⟩
  · exfalso
    have h3 := sz_le_m hn (show cov ls 0 < bit n from sevTo_lt hls _ (Nat.le_refl _))
    rw [sz_zero] at g
    omega
  · refine .inr ⟨by omega, ?_⟩
    have : lnT ls (t + 1) = lnT ls t := by simp only [lnT]; rw [if_neg (by omega)]
    rw [this]; exact ⟨h2, h3, h4⟩

set_option maxRecDepth 100000 in
set_option maxHeartbeats 8000000 in
theorem c_lines {B : Nat} {W : World} (u : Later B W) (m : Nat) (hm : m ≤ 8) (ls : List Nat) (b : Option Addr) (capb : Nat)
    (hb : IntsAt B W b (ints ls)) (h8 : ls.length ≤ 8) (hls : ∀ k, k < ls.length → ls.getD k 0 < bit m) (hLs : LisIs (m : Int) (ints ls) 0) :
    Calls Tryd.prog 8 #[.int .i64 m, .slice b ls.length capb] u.val (Ret B W (.tuple #[.int .i64 (lnT ls (bit ls.length)).1, .int .i64 (lnT ls (bit ls.length)).2, .int .i64 0])) := by
  have hbm := bit_le m hm
  have hbl := bit_le ls.length h8
  have hblc := bit_cast ls.length
  have KH := Lib.hid (fun v : Later B W => c_hallCheck v m (ints ls) b capb 0 hb (by rw [ints_len]; omega) hLs)
  rw [ints_len] at KH
  have HIb := Lib.hid hb
  have HLs := Lib.hid hls
  have HCl : Hid (∀ s k, k ≤ ls.length → covT ls s k < bit m) := Lib.hid (fun s k hk => by rw [covT_eq ls s k hk]; exact sevTo_lt hls _ hk)
  have HCe : Hid (∀ s, covT ls s ls.length = cov ls s) := Lib.hid (fun s => covT_eq ls s _ (Nat.le_refl _))
  have HSS : Hid (∀ s k, covT ls s (k+1) = if s.testBit k = true then covT ls s k else covT ls s k ||| ls.getD k 0) := Lib.hid (fun s k => rfl)
  have HEnd : Hid (∀ b r c, LnS ls m (bit ls.length) b r c → r = (lnT ls (bit ls.length)).1 ∧ c = (lnT ls (bit ls.length)).2) := Lib.hid (fun b r c h => by
    rcases h with ⟨h1, _⟩ | ⟨_, _, h⟩
    · omega
    · exact h)
  clear hb hls hLs
  generalize (lnT ls (bit ls.length)).1 = R1 at *
  generalize (lnT ls (bit ls.length)).2 = R2 at *
  go_enter Tryd.func8, Tryd.ntmps8
  go_upto_region 4 with (first | (go_at_call 9; ((with_reducible refine (KH.out _).mono ?_); rintro e _ ⟨rfl, v1, rfl⟩)))
  have hbi0 : Hid (LnS ls m 0 ((m : Int) + ls.length + 1) 0 0) := Lib.hid (.inl ⟨rfl, rfl, rfl, rfl⟩)
  go_wp2
  go_loopw [4, 5, 8, 28] (fun r c bb i wr => ∃ (s : Nat) (b' r' c' : Int) (v : Later B W), s ≤ bit ls.length ∧ i = .int .i64 s ∧ bb = .int .i64 b' ∧ r = .int .i64 r' ∧ c = .int .i64 c' ∧ wr = v.val ∧ Hid (LnS ls m s b' r' c')) (fun _ _ _ i _ => bit ls.length - (intOf i).toNat)
  case atStart => exact ⟨0, _, 0, 0, v1, by omega, rfl, rfl, rfl, rfl, rfl, hbi0⟩
  case round =>
    clear hbi0
    obtain ⟨s, b', r', c', v, hs, rfl, rfl, rfl, rfl, rfl, HL⟩ := hrel
    rcases nlt s (bit ls.length) with ⟨hlt, d0⟩ | ⟨hlt, d0⟩
    case inr =>
      have d0' : decide ((s : Int) < (bit ls.length : Int)) = false := decide_eq_false (by omega)
      have hse : s = bit ls.length := by omega
      subst hse
      obtain ⟨rfl, rfl⟩ := HEnd.out _ _ _ HL.out
      clear HEnd HL
      go_wp2
      go_ret3
      exact Ret.mk v rfl
    have d0' : decide ((s : Int) < (bit ls.length : Int)) = true := decide_eq_true (by omega)
    have HSs := Lib.hid (HSS.out s)
    have HSk := Lib.hid (HCl.out s)
    have HSe := Lib.hid (HCe.out s)
    have HY := Lib.hid (HL.out.yes hm HLs.out)
    have HNo := Lib.hid (HL.out.no hm HLs.out)
    clear HL
    go_wp2
    clear d0 d0'
    go_loopw [10, 33] (fun o i wr => ∃ (k : Nat) (v : Later B W), k ≤ ls.length ∧ i = .int .i64 k ∧ o = .int .i64 (covT ls s k) ∧ wr = v.val) (fun _ i _ => ls.length - (intOf i).toNat)
    case atStart => exact ⟨0, v, by omega, rfl, rfl, rfl⟩
    case round =>
      obtain ⟨k, v, hk, rfl, rfl, rfl⟩ := hrel
      have hlk := HSk.out k hk
      by_cases hlt2 : k < ls.length
      · have HS := Lib.hid (HSs.out k)
        obtain ⟨bb, off, rfl, hbB, hcell⟩ := HIb.out.at (k := k) (by rw [ints_len]; exact hlt2)
        have c0 : ∀ v : Later B W, v.val.cell? ⟨bb, off + k, none⟩ = some (.int .i64 ((ls.getD k 0 : Nat) : Int)) := fun v => by rw [← ints_getD]; exact hcell v k (by rw [ints_len]; exact hlt2)
        have hx := HLs.out k hlt2
        clear hcell
        generalize ls.getD k 0 = x0 at *
        generalize covT ls s k = c0' at *
        have ib := i64_bit s k (by omega) (by omega)
        have bk := bit_cast k
        have o1 := i64_or c0' x0 (by omega) (by omega)
        rcases btf (s.testBit k) with g1 | g1
        · rw [g1] at ib
          rw [if_pos g1] at HS
          clear g1
          go_wp2
          go_roundw
          case rel => exact ⟨k+1, v, by omega, by go_num, vint (by rw [HS.out]), rfl⟩
          case measure => simp [intOf]; omega
        · rw [g1] at ib
          rw [if_neg (by rw [g1]; decide)] at HS
          clear g1
          go_wp2
          go_roundw
          case rel => exact ⟨k+1, v, by omega, by go_num, vint (by rw [HS.out]), rfl⟩
          case measure => simp [intOf]; omega
      · have hke : k = ls.length := by omega
        subst hke
        rw [HSe.out] at hlk ⊢
        have hz := sz_le s
        have hz2 := sz_le (cov ls s)
        have KO1 := Lib.hid (fun v : Later B W => c_ones v s (by omega))
        have KO2 := Lib.hid (fun v : Later B W => c_ones v (cov ls s) (by omega))
        clear HSk HSs HSe
        generalize cov ls s = t at *
        have hcs : Hid ((sz s : Int) + sz t = ((sz s + sz t : Nat) : Int)) := Lib.hid (by omega)
        rcases ilt ((sz s : Int) + sz t) b' with ⟨g1, d1⟩ | ⟨g1, d1⟩
        · have HN2 := Lib.hid (HY.out g1)
          clear HY HNo g1
          generalize sz t = zt at *
          generalize sz s = zs at *
          go_wp2_with (first | (go_at_call 22; (with_reducible refine (KO1.out _).mono ?_); rintro e _ ⟨rfl, v2, rfl⟩) | (go_at_call 22; (with_reducible refine (KO2.out _).mono ?_); rintro e _ ⟨rfl, v3, rfl⟩))
          go_roundw
          case rel => exact ⟨s+1, _, _, _, v3, by omega, by go_num, rfl, rfl, rfl, rfl, HN2⟩
          case measure => simp [intOf]; omega
        · have HN2 := Lib.hid (HNo.out (by omega))
          clear HY HNo g1
          generalize sz t = zt at *
          generalize sz s = zs at *
          go_wp2_with (first | (go_at_call 22; (with_reducible refine (KO1.out _).mono ?_); rintro e _ ⟨rfl, v2, rfl⟩) | (go_at_call 22; (with_reducible refine (KO2.out _).mono ?_); rintro e _ ⟨rfl, v3, rfl⟩))
          go_roundw
          case rel => exact ⟨s+1, _, _, _, v3, by omega, by go_num, rfl, rfl, rfl, rfl, HN2⟩
          case measure => simp [intOf]; omega

set_option maxRecDepth 100000 in
set_option maxHeartbeats 4000000 in
theorem c_hallNo {B : Nat} {W : World} (u : Later B W) (n : Int) (l : List Int) (a : Option Addr) (cap : Nat) (e : Int) (h : IntsAt B W a l) (hlen : l.length ≤ 4611686018427387904) (he : LisIs n l e) (h0 : e ≠ 0) :
    Calls Tryd.prog 7 #[.int .i64 n, .slice a l.length cap] u.val (Ret B W (.tuple #[.int .i64 0, .int .i64 e])) ∧ Calls Tryd.prog 8 #[.int .i64 n, .slice a l.length cap] u.val (Ret B W (.tuple #[.int .i64 0, .int .i64 0, .int .i64 e])) ∧ Calls Tryd.prog 6 #[.int .i64 n, .slice a l.length cap] u.val (Ret B W (.tuple #[.slice none 0 0, .int .i64 e])) := by
  have K1 := Lib.hid (fun v : Later B W => c_hallCheck v n l a cap e h hlen he)
  have d0 : (e != 0) = true := by rw [bne_iff_ne]; exact h0
  clear h he h0
  refine ⟨?_, ?_, ?_⟩
  · go_enter Tryd.func7, Tryd.ntmps7
    go_wp2_with (first | (go_at_call 9; (with_reducible refine ((K1.out _)).mono ?_); rintro e _ ⟨rfl, v1, rfl⟩))
    go_ret2
    exact Ret.mk v1 rfl
  · go_enter Tryd.func8, Tryd.ntmps8
    go_wp2_with (first | (go_at_call 9; (with_reducible refine ((K1.out _)).mono ?_); rintro e _ ⟨rfl, v1, rfl⟩))
    go_ret3
    exact Ret.mk v1 rfl
  · go_enter Tryd.func6, Tryd.ntmps6
    go_wp2_with (first | (go_at_call 9; (with_reducible refine ((K1.out _)).mono ?_); rintro e _ ⟨rfl, v1, rfl⟩))
    go_ret2
    exact Ret.mk v1 rfl

set_option maxRecDepth 100000 in
set_option maxHeartbeats 8000000 in
theorem c_matching {B : Nat} {W : World} (u : Later B W) (m : Nat) (hm : m ≤ 8) (ls : List Nat) (b : Option Addr) (capb : Nat)
    (hb : IntsAt B W b (ints ls)) (h8 : ls.length ≤ 8) (hls : ∀ k, k < ls.length → ls.getD k 0 < bit m) :
    Calls Tryd.prog 16 #[.slice b ls.length capb] u.val (Ret B W (.int .i64 (mtN ls))) := by
  have hbm := bit_le m hm
  have hbl := bit_le ls.length h8
  have KSv := Lib.hid (fun (v : Later B W) (s : Nat) (hs : s < 256) => c_several v m s ls b capb hb h8 hm hs hls)
  rw [ints_len] at KSv
  have KZ := Lib.hid (fun (x : Nat) (hx : x < 256) (w : Later B W) => c_size w x hx)
  have KA : Hid (∀ v : Later B W, Calls Tryd.prog 13 #[.int .i64 ls.length] v.val (Ret B W (.int .i64 ((bit ls.length : Int) - 1)))) := Lib.hid (fun v => by
    have := c_all v (ls.length : Int) (by omega) (by omega)
    rwa [all_nat, show ((bit ls.length - 1 : Nat) : Int) = (bit ls.length : Int) - 1 by omega] at this)
  have HSl : Hid (∀ s, sev ls s < bit m) := Lib.hid (fun s => sevTo_lt hls s (Nat.le_refl _))
  have HEnd : Hid (mtTo ls (bit ls.length) = mtN ls) := Lib.hid rfl
  have HSS : Hid (∀ s, mtTo ls (s + 1) = min (mtTo ls s) (ls.length - sz s + sz (sev ls s))) := Lib.hid (fun s => rfl)
  have HM8 : Hid (∀ s, mtTo ls s ≤ ls.length) := Lib.hid (fun s => (mtTo_le ls s).1)
  have HM0 : Hid (mtTo ls 0 = ls.length) := Lib.hid rfl
  clear hb hls
  generalize mtN ls = R at *
  go_enter Tryd.func16, Tryd.ntmps16
  go_wp2
  go_loopw [3, 4] (fun o i wr => ∃ (s : Nat) (v : Later B W), s ≤ bit ls.length ∧ i = .int .i64 s ∧ o = .int .i64 (mtTo ls s) ∧ wr = v.val) (fun _ i _ => bit ls.length - (intOf i).toNat)
  case atStart => exact ⟨0, u, by omega, rfl, by rw [HM0.out], rfl⟩
  case round =>
    obtain ⟨s, v, hs, rfl, rfl, rfl⟩ := hrel
    have KA1 := Lib.hid (KA.out v)
    rcases ile (s : Int) ((bit ls.length : Int) - 1) with ⟨hlt, d0⟩ | ⟨hlt, d0⟩
    · have hsb : s < bit ls.length := by omega
      have KSs := Lib.hid (fun v => KSv.out v s (by omega))
      have hl := HSl.out s
      have KZ1 := Lib.hid (KZ.out s (by omega))
      have KZ2 := Lib.hid (KZ.out (sev ls s) (by omega))
      have HS := Lib.hid (HSS.out s)
      have h1 := HM8.out s
      have hz1 := sz_le s
      have hz3 := sz_le_m h8 hsb
      have hz2 := sz_le (sev ls s)
      generalize sev ls s = t at *
      generalize mtTo ls s = mt at *
      have HN : Hid (((mtTo ls (s + 1) : Nat) : Int) = min (mt : Int) ((ls.length : Int) - sz s + sz t)) := Lib.hid (by rw [HS.out]; omega)
      clear HS
      generalize sz t = zt at *
      generalize sz s = zs at *
      go_wp2_with (first | (go_at_call 13; (with_reducible refine (KA1.out).mono ?_); rintro e _ ⟨rfl, v1, rfl⟩) | (go_at_call 14; (with_reducible refine (KZ1.out v1).mono ?_); rintro e _ ⟨rfl, v2, rfl⟩) | (go_at_call 12; (with_reducible refine (KSs.out v2).mono ?_); rintro e _ ⟨rfl, v3, rfl⟩) | (go_at_call 14; (with_reducible refine (KZ2.out v3).mono ?_); rintro e _ ⟨rfl, v4, rfl⟩) | fail)
      all_goals
        go_roundw
        case rel => exact ⟨s+1, v4, by omega, by go_num, vint (by rw [HN.out]; omega), rfl⟩
        case measure => simp [intOf]; omega
    · have hse : s = bit ls.length := by omega
      subst hse
      rw [HEnd.out]
      go_wp2_with (first | (go_at_call 13; (with_reducible refine (KA1.out).mono ?_); rintro e _ ⟨rfl, v1, rfl⟩))
      go_ret
      exact Ret.mk v1 rfl

end Go.Proofs.YtdhmponbakodmaaDoor
