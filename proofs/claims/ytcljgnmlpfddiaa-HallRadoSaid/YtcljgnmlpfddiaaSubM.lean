/-
  slices.Min, slices.Max of numbers; sub.Least.
-/
import Derived.Test.YtcljgnmlpfddiaaSubW
namespace Go.Proofs.Ytcljgnmlpfddiaa
open Go.RowKit
set_option linter.unusedVariables false

theorem results_tmp4 {fn : Func} {t u v x : Tmp} (h : fn.results = #[.tmp t, .tmp u, .tmp v, .tmp x]) (tmps : Array Value) (P : Program) (w : World) :
    (results fn tmps).run P w = .ok (.tuple #[tmps.getD t undef, tmps.getD u undef, tmps.getD v undef, tmps.getD x undef]) w := by simp [results, h]

def minTo (l : List Int) : Nat → Int
  | 0 => l.getD 0 0
  | k + 1 => min (minTo l k) (l.getD k 0)
def maxTo (l : List Int) : Nat → Int
  | 0 => l.getD 0 0
  | k + 1 => max (maxTo l k) (l.getD k 0)
def lmin (l : List Int) : Int := minTo l l.length
def lmax (l : List Int) : Int := maxTo l l.length
theorem minTo_one (l : List Int) : minTo l 1 = l.getD 0 0 := by show min _ _ = _; unfold minTo; omega
theorem maxTo_one (l : List Int) : maxTo l 1 = l.getD 0 0 := by show max _ _ = _; unfold maxTo; omega
theorem minTo_le (l : List Int) {k i : Nat} (h : i < k) : minTo l k ≤ l.getD i 0 := by
  induction k with
  | zero => omega
  | succ k ih =>
    show min _ _ ≤ _
    by_cases e : i = k
    · subst e; omega
    · have := ih (by omega); omega
theorem maxTo_ge (l : List Int) {k i : Nat} (h : i < k) : l.getD i 0 ≤ maxTo l k := by
  induction k with
  | zero => omega
  | succ k ih =>
    show _ ≤ max _ _
    by_cases e : i = k
    · subst e; omega
    · have := ih (by omega); omega
theorem minTo_mem (l : List Int) (k : Nat) : ∃ i, (i < k ∨ i = 0) ∧ minTo l k = l.getD i 0 := by
  induction k with
  | zero => exact ⟨0, .inr rfl, rfl⟩
  | succ k ih =>
    obtain ⟨i, hi, e⟩ := ih
    have h : minTo l (k+1) = min (minTo l k) (l.getD k 0) := rfl
    by_cases c : minTo l k ≤ l.getD k 0
    · exact ⟨i, by omega, by omega⟩
    · exact ⟨k, .inl (by omega), by omega⟩
theorem maxTo_mem (l : List Int) (k : Nat) : ∃ i, (i < k ∨ i = 0) ∧ maxTo l k = l.getD i 0 := by
  induction k with
  | zero => exact ⟨0, .inr rfl, rfl⟩
  | succ k ih =>
    obtain ⟨i, hi, e⟩ := ih
    have h : maxTo l (k+1) = max (maxTo l k) (l.getD k 0) := rfl
    by_cases c : l.getD k 0 ≤ maxTo l k
    · exact ⟨i, by omega, by omega⟩
    · exact ⟨k, .inl (by omega), by omega⟩

set_option maxHeartbeats 1000000 in
theorem c_min {B : Nat} {W : World} (u : Later B W) (l : List Int) (a : Option Addr) (cap : Nat) (h : IntsAt B W a l) (h0 : 0 < l.length) (hlen : l.length ≤ 4611686018427387904) :
    Calls Try.prog 58 #[.slice a l.length cap] u.val (Ret B W (.int .i64 (lmin l))) := by
  obtain ⟨b, off, rfl, hbB, hcell⟩ := h.at (k := 0) (by omega)
  have HC := Lib.hid hcell
  clear hcell h
  have c0 : u.val.cell? ⟨b, off, none⟩ = some (.int .i64 (l.getD 0 0)) := HC.out u 0 (by omega)
  have HM := Lib.hid (minTo_one l)
  generalize l.getD 0 0 = x at *
  go_enter Try.func58, Try.ntmps58
  go_wp2
  go_loopw [3, 4] (fun m i wr => ∃ (k : Nat) (u : Later B W), 1 ≤ k ∧ k ≤ l.length ∧ i = .int .i64 k ∧ m = .int .i64 (minTo l k) ∧ wr = u.val) (fun _ i _ => l.length - (intOf i).toNat)
  case atStart => exact ⟨1, u, by omega, by omega, rfl, vint HM.out.symm, rfl⟩
  case round =>
    clear c0
    obtain ⟨k, u, hk1, hk, rfl, rfl, rfl⟩ := hrel
    by_cases hlt : k < l.length
    · have c0 : u.val.cell? ⟨b, off + k, none⟩ = some (.int .i64 (l.getD k 0)) := HC.out u k hlt
      have HE : Hid (minTo l (k+1) = min (minTo l k) (l.getD k 0)) := Lib.hid rfl
      generalize l.getD k 0 = y at *
      generalize minTo l k = z at *
      go_wp2
      go_roundw
      case rel => exact ⟨k+1, u, by omega, by omega, by go_num, vint (by rw [HE.out]; omega), rfl⟩
      case measure => simp [intOf]; omega
    · have hke : Hid (k = l.length) := Lib.hid (by omega)
      go_wp2
      go_ret
      exact Ret.mk u (vint (by unfold lmin; rw [hke.out]))

set_option maxHeartbeats 1000000 in
theorem c_max {B : Nat} {W : World} (u : Later B W) (l : List Int) (a : Option Addr) (cap : Nat) (h : IntsAt B W a l) (h0 : 0 < l.length) (hlen : l.length ≤ 4611686018427387904) :
    Calls Try.prog 63 #[.slice a l.length cap] u.val (Ret B W (.int .i64 (lmax l))) := by
  obtain ⟨b, off, rfl, hbB, hcell⟩ := h.at (k := 0) (by omega)
  have HC := Lib.hid hcell
  clear hcell h
  have c0 : u.val.cell? ⟨b, off, none⟩ = some (.int .i64 (l.getD 0 0)) := HC.out u 0 (by omega)
  have HM := Lib.hid (maxTo_one l)
  generalize l.getD 0 0 = x at *
  go_enter Try.func63, Try.ntmps63
  go_wp2
  go_loopw [3, 4] (fun m i wr => ∃ (k : Nat) (u : Later B W), 1 ≤ k ∧ k ≤ l.length ∧ i = .int .i64 k ∧ m = .int .i64 (maxTo l k) ∧ wr = u.val) (fun _ i _ => l.length - (intOf i).toNat)
  case atStart => exact ⟨1, u, by omega, by omega, rfl, vint HM.out.symm, rfl⟩
  case round =>
    clear c0
    obtain ⟨k, u, hk1, hk, rfl, rfl, rfl⟩ := hrel
    by_cases hlt : k < l.length
    · have c0 : u.val.cell? ⟨b, off + k, none⟩ = some (.int .i64 (l.getD k 0)) := HC.out u k hlt
      have HE : Hid (maxTo l (k+1) = max (maxTo l k) (l.getD k 0)) := Lib.hid rfl
      generalize l.getD k 0 = y at *
      generalize maxTo l k = z at *
      go_wp2
      go_roundw
      case rel => exact ⟨k+1, u, by omega, by omega, by go_num, vint (by rw [HE.out]; omega), rfl⟩
      case measure => simp [intOf]; omega
    · have hke : Hid (k = l.length) := Lib.hid (by omega)
      go_wp2
      go_ret
      exact Ret.mk u (vint (by unfold lmax; rw [hke.out]))

/-- the least and the greatest set with value v, among the first k -/
def lowTo (f : List Int) (v : Int) (b : Nat) : Nat → Nat
  | 0 => b - 1
  | k + 1 => if f.getD k 0 = v then lowTo f v b k &&& k else lowTo f v b k
def highTo (f : List Int) (v : Int) : Nat → Nat
  | 0 => 0
  | k + 1 => if f.getD k 0 = v then highTo f v k ||| k else highTo f v k
theorem lowTo_le (f : List Int) (v : Int) (b k : Nat) : lowTo f v b k ≤ b - 1 := by
  induction k with
  | zero => exact Nat.le_refl _
  | succ k ih =>
    show (if _ then _ else _) ≤ _
    split
    · exact Nat.le_trans Nat.and_le_left ih
    · exact ih
theorem highTo_lt (f : List Int) (v : Int) (k : Nat) (hk : k ≤ 256) : highTo f v k < 256 := by
  induction k with
  | zero => exact Nat.succ_pos _
  | succ k ih =>
    show (if _ then _ else _ : Nat) < _
    split
    · exact or_lt _ _ (ih (by omega)) (by omega)
    · exact ih (by omega)

set_option maxRecDepth 100000 in
set_option maxHeartbeats 2000000 in
theorem c_least {B : Nat} {W : World} (u : Later B W) (n : Int) (f : List Int) (a : Option Addr) (cap : Nat) (e : Int) (h : IntsAt B W a f) (hlen : f.length ≤ 4611686018427387904) (he : SlwIs n f e) :
    Calls Try.prog 56 #[.int .i64 n, .slice a f.length cap] u.val (Ret B W (.tuple #[.int .i64 (if e = 0 then lmin f else 0), .int .i64 (if e = 0 then (lowTo f (lmin f) f.length f.length : Int) else 0), .int .i64 (if e = 0 then (highTo f (lmin f) f.length : Int) else 0), .int .i64 e])) := by
  have HC := Lib.hid (c_subCheck u n f a cap e h hlen he)
  rcases ieq e 0 with ⟨g, d1, d2⟩ | ⟨g, d1, d2⟩
  case inr =>
    simp only [if_neg g]
    clear h he g
    go_enter Try.func56, Try.ntmps56
    go_wp2_with (go_at_call 115; refine HC.out.mono ?_; rintro e _ ⟨rfl, u1, rfl⟩)
    refine bodyPost_ret (results_tmp4 rfl _ _ _) rfl ?_
    go_simp
    exact Ret.mk u1 rfl
  subst g
  simp only
  obtain ⟨hf, hg⟩ := he.zero
  obtain ⟨m, rfl⟩ := Int.eq_ofNat_of_zero_le hf.1
  have hm : m ≤ 8 := by have := hf.2.1; omega
  have hb := bit_le m hm
  have hc := bit_cast m
  have hl := hf.len
  have hl1 : f.length ≤ 256 := by omega
  have hl2 : 1 ≤ f.length := by omega
  have HL := Lib.hid hl
  have HM := Lib.hid (fun u : Later B W => c_min u f a cap h (by omega) hlen)
  obtain ⟨b, off, rfl, hbB, hcell⟩ := h.at (k := 0) (by omega)
  have HI := Lib.hid hcell
  clear hf hg he hl hcell h
  generalize lmin f = v at *
  go_enter Try.func56, Try.ntmps56
  go_wp2_with (first | (go_at_call 115; refine HC.out.mono ?_; rintro e _ ⟨rfl, u1, rfl⟩) | (go_at_call 58; refine (HM.out _).mono ?_; rintro e _ ⟨rfl, u2, rfl⟩))
  go_loopw [5, 6, 24] (fun o p i wr => ∃ (k : Nat) (u : Later B W), k ≤ f.length ∧ i = .int .i64 k ∧ o = .int .i64 (lowTo f v f.length k) ∧ p = .int .i64 (highTo f v k) ∧ wr = u.val) (fun _ _ i _ => f.length - (intOf i).toNat)
  case atStart => exact ⟨0, u2, by omega, rfl, vint (by show _ = ((f.length - 1 : Nat) : Int); have := HL.out; omega), rfl, rfl⟩
  case round =>
    obtain ⟨k, u, hk, rfl, rfl, rfl, rfl⟩ := hrel
    by_cases hlt : k < f.length
    · have c0 : u.val.cell? ⟨b, off + k, none⟩ = some (.int .i64 (f.getD k 0)) := HI.out u k hlt
      have HE1 : Hid (lowTo f v f.length (k+1) = if f.getD k 0 = v then lowTo f v f.length k &&& k else lowTo f v f.length k) := Lib.hid rfl
      have HE2 : Hid (highTo f v (k+1) = if f.getD k 0 = v then highTo f v k ||| k else highTo f v k) := Lib.hid rfl
      have b1 := lowTo_le f v f.length k
      have b2 := highTo_lt f v k (by omega)
      generalize f.getD k 0 = y at *
      generalize lowTo f v f.length k = p at *
      generalize highTo f v k = q at *
      have hand := i64_and p k (by omega) (by omega)
      have hor := i64_or q k (by omega) (by omega)
      rcases ieq y v with ⟨g, d1, d2⟩ | ⟨g, d1, d2⟩
      · rw [if_pos g] at HE1 HE2
        subst g
        go_wp2
        go_roundw
        case rel => exact ⟨k+1, u, by omega, by go_num, by rw [HE1.out], by rw [HE2.out], rfl⟩
        case measure => simp [intOf]; omega
      · rw [if_neg g] at HE1 HE2
        go_wp2
        go_roundw
        case rel => exact ⟨k+1, u, by omega, by go_num, by rw [HE1.out], by rw [HE2.out], rfl⟩
        case measure => simp [intOf]; omega
    · have hke : Hid (k = f.length) := Lib.hid (by omega)
      go_wp2
      refine bodyPost_ret (results_tmp4 rfl _ _ _) rfl ?_
      go_simp
      exact Ret.mk u (by rw [hke.out])

end Go.Proofs.Ytcljgnmlpfddiaa
