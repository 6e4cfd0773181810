
/-
  Contracts: BinarySearch over a rising list, has, basis (is a number in a rising list?); of the law's own small helpers, where they answer true: Same, list, one; bad.
  rotalaw.one, where both sides agree.
-/
import Derived.Test.YtenbeiafdiifgaaPk06
namespace Go.Proofs.Ytenbeiafdiifgaa
open Go.RowKit
set_option linter.unusedVariables false

def rising (l : List Int) : Prop := ∀ i j, i < j → j < l.length → l.getD i 0 < l.getD j 0
theorem famTo.rising {n l} (h : famTo n l l.length) : rising l := by
  intro i j hij hj
  induction j with
  | zero => omega
  | succ j ih =>
    have h1 := (h (j+1) hj).2.2 (by omega)
    simp only [Nat.add_sub_cancel] at h1
    by_cases e : i = j
    · subst e; exact h1
    · have := ih (by omega) (by omega); omega

theorem bs_found {l : List Int} {v : Int} {i : Nat} (hi : i < l.length) (he : l.getD i 0 = v) : v ∈ l := by rw [← he]; simp [hi]
theorem bs_not {l : List Int} {v : Int} {i : Nat} (h1 : ∀ a, a < i → l.getD a 0 < v) (h2 : ∀ a, i ≤ a → a < l.length → v ≤ l.getD a 0) (hs : rising l) (hne : i < l.length → l.getD i 0 ≠ v) : v ∉ l := by
  intro hm
  obtain ⟨a, ha, e⟩ := List.getElem_of_mem hm
  have e' : l.getD a 0 = v := by simp [ha, e]
  by_cases c : a < i
  · have := h1 a c; omega
  · by_cases c2 : a = i
    · subst c2; exact hne ha e'
    · have := hs i a (by omega) ha
      have := h2 i (by omega) (by omega)
      omega

/-- what BinarySearch says: some place, and whether it is there -/
def bsPost (l : List Int) (v : Int) (x : Value) (_ : World) : Prop := ∃ i : Int, x = .tuple #[.int .i64 i, .bool (decide (v ∈ l))]
theorem bsPost.mk {l : List Int} {v i : Int} {b : Bool} {w : World} (h : b = decide (v ∈ l)) : bsPost l v (.tuple #[.int .i64 i, .bool b]) w := ⟨i, by rw [h]⟩

set_option maxHeartbeats 400000 in
theorem c_isNaN {B : Nat} {W : World} (u : Later B W) (x : Int) : Calls Try.prog 49 #[.int .i64 x] u.val (Ret B W (.bool false)) := by
  go_enter Try.func49, Try.ntmps49
  go_wp2
  go_ret
  exact Ret.mk u (vbool (by simp))
set_option maxHeartbeats 400000 in
theorem c_cmpIsNaN {B : Nat} {W : World} (u : Later B W) (x : Int) : Calls Try.prog 50 #[.int .i64 x] u.val (Ret B W (.bool false)) := by
  go_enter Try.func50, Try.ntmps50
  go_wp2
  go_ret
  exact Ret.mk u (vbool (by simp))
set_option maxHeartbeats 400000 in
theorem c_cmpLess {B : Nat} {W : World} (u : Later B W) (x y : Int) : Calls Try.prog 48 #[.int .i64 x, .int .i64 y] u.val (Ret B W (.bool (decide (x < y)))) := by
  have H := Lib.hid (fun (u : Later B W) x => c_cmpIsNaN u x)
  go_enter Try.func48, Try.ntmps48
  go_wp2_with (go_at_call 50; refine (H.out u _).mono ?_; rintro e _ ⟨rfl, v, rfl⟩)
  go_ret
  exact Ret.mk _ rfl

set_option maxHeartbeats 1000000 in
theorem c_bsearch {B : Nat} {W : World} (u : Later B W) (l : List Int) (v : Int) (a : Option Addr) (cap : Nat) (h : IntsAt B W a l) (hlen : l.length ≤ 4611686018427387904) (hs : rising l) :
    Calls Try.prog 47 #[.slice a l.length cap, .int .i64 v] u.val (RetP B W (bsPost l v)) := by
  have HI := Lib.hid h; clear h
  have HS := Lib.hid hs; clear hs
  go_enter Try.func47, Try.ntmps47
  go_wp2
  go_loopw [7, 8] (fun i j wr => ∃ (p q : Nat) (u : Later B W), p ≤ q ∧ q ≤ l.length ∧ i = .int .i64 p ∧ j = .int .i64 q ∧ wr = u.val ∧ Hid (∀ a, a < p → l.getD a 0 < v) ∧ Hid (∀ a, q ≤ a → a < l.length → v ≤ l.getD a 0)) (fun i j _ => (intOf j - intOf i).toNat)
  case atStart => exact ⟨0, l.length, u, by omega, by omega, rfl, rfl, rfl, by intro i hi; omega, by intro i hi; omega⟩
  case round =>
    obtain ⟨p, q, u, hpq, hq, rfl, rfl, rfl, H1, H2⟩ := hrel
    by_cases hlt : p < q
    · obtain ⟨b, off, rfl, hb, hc⟩ := HI.out.at (k := p) (by omega)
      have c0 : u.val.cell? ⟨b, off + (p + q) / 2, none⟩ = some (.int .i64 (l.getD ((p + q) / 2) 0)) := hc u ((p + q) / 2) (by omega)
      have H3 : Hid (l.getD ((p + q) / 2) 0 < v → ∀ a, a < (p + q) / 2 + 1 → l.getD a 0 < v) := fun hx a ha => by
        by_cases e : a = (p + q) / 2
        · rw [e]; exact hx
        · have := HS.out a ((p + q) / 2) (by omega) (by omega); omega
      have H4 : Hid (v ≤ l.getD ((p + q) / 2) 0 → ∀ a, (p + q) / 2 ≤ a → a < l.length → v ≤ l.getD a 0) := fun hx a ha hal => by
        by_cases e : a = (p + q) / 2
        · rw [e]; exact hx
        · have := HS.out ((p + q) / 2) a (by omega) (by omega); omega
      generalize l.getD ((p + q) / 2) 0 = x at *
      clear hc
      have H := Lib.hid (c_cmpLess u x v)
      rcases ilt x v with ⟨g1, d1⟩ | ⟨g1, d1⟩
      · go_wp2_with (go_at_call 48; refine H.out.mono ?_; rintro e _ ⟨rfl, u1, rfl⟩)
        go_roundw
        case rel => exact ⟨(p + q) / 2 + 1, q, u1, by omega, by omega, by go_num, rfl, rfl, H3.out g1, H2⟩
        case measure => simp [intOf]; omega
      · go_wp2_with (go_at_call 48; refine H.out.mono ?_; rintro e _ ⟨rfl, u1, rfl⟩)
        go_roundw
        case rel => exact ⟨p, (p + q) / 2, u1, by omega, by omega, rfl, by go_num, rfl, H1, H4.out g1⟩
        case measure => simp [intOf]; omega
    · have e : p = q := by omega
      subst e
      have HN := Lib.hid (fun (u : Later B W) x => c_isNaN u x)
      rcases nlt p l.length with ⟨g1, d1⟩ | ⟨g1, d1⟩
      · obtain ⟨b, off, rfl, hb, hc⟩ := HI.out.at (k := p) (by omega)
        have c0 : ∀ u : Later B W, u.val.cell? ⟨b, off + p, none⟩ = some (.int .i64 (l.getD p 0)) := fun u => hc u p g1
        have H3 := Lib.hid (fun he => bs_found (v := v) g1 he)
        have H4 := Lib.hid (fun hne => bs_not H1.out H2.out HS.out (fun _ => hne))
        generalize l.getD p 0 = x at *
        clear hc
        rcases ieq x v with ⟨g2, d2, _⟩ | ⟨g2, d2, _⟩
        · have g3 : v ∈ l := H3.out g2
          subst g2
          go_wp2_with (go_at_call 49; refine (HN.out _ _).mono ?_; rintro e _ ⟨rfl, u1, rfl⟩)
          go_ret2
          exact RetP.mk _ (bsPost.mk (dec_true g3))
        · have g3 : v ∉ l := H4.out g2
          go_wp2_with (go_at_call 49; refine (HN.out _ _).mono ?_; rintro e _ ⟨rfl, u1, rfl⟩)
          go_ret2
          exact RetP.mk _ (bsPost.mk (dec_false g3))
      · have g3 : v ∉ l := bs_not H1.out H2.out HS.out (fun h => by omega)
        go_wp2_with (go_at_call 49; refine (HN.out _ _).mono ?_; rintro e _ ⟨rfl, u1, rfl⟩)
        go_ret2
        exact RetP.mk _ (bsPost.mk (dec_false g3))


/-! ### the law's own helpers, where they answer true -/
set_option maxHeartbeats 1000000 in
theorem c_same {B : Nat} {W : World} (u : Later B W) (l : List Int) (a b : Option Addr) (ca cb : Nat) (ha : IntsAt B W a l) (hb : IntsAt B W b l) (hlen : l.length ≤ 4611686018427387904) :
    Calls Try.prog 27 #[.slice a l.length ca, .slice b l.length cb] u.val (Ret B W (.bool true)) := by
  have HA := Lib.hid ha; have HB := Lib.hid hb; clear ha hb
  go_enter Try.func27, Try.ntmps27
  go_wp2
  go_loopw [13] (fun i wr => ∃ (k : Nat) (u : Later B W), k ≤ l.length ∧ i = .int .i64 k ∧ wr = u.val) (fun i _ => l.length - (intOf i).toNat)
  case atStart => exact ⟨0, u, by omega, rfl, rfl⟩
  case round =>
    obtain ⟨k, u, hk, rfl, rfl⟩ := hrel
    by_cases hlt : k < l.length
    · obtain ⟨p, off, rfl, hp, hc⟩ := HA.out.at hlt
      obtain ⟨q, off', rfl, hq, hc'⟩ := HB.out.at hlt
      have c0 : ∀ u : Later B W, u.val.cell? ⟨p, off + k, none⟩ = some (.int .i64 (l.getD k 0)) := fun u => hc u k hlt
      have c1 : ∀ u : Later B W, u.val.cell? ⟨q, off' + k, none⟩ = some (.int .i64 (l.getD k 0)) := fun u => hc' u k hlt
      generalize l.getD k 0 = x at *
      clear hc hc'
      go_wp2
      refine wp_region_later u (by kernel_rfl) (by kernel_rfl) (fun _ => ?_)
      repeat (first | go_big_quiet_step ((fail)) | (refine wpQuiet_step (fun K hK => ?_); go_simp; refine ⟨_, fun _ => rfl, ?_⟩; refine hK _ ?_; clear hK K))
      refine wpQuiet_nil ?_
      intro u
      go_wp2
      go_roundw
      case rel => exact ⟨k+1, u, by omega, by go_num, rfl⟩
      case measure => simp [intOf]; omega
    · go_wp2
      go_ret
      exact Ret.mk u rfl

set_option maxHeartbeats 400000 in
theorem c_bad {B : Nat} {W : World} (u : Later B W) (ok : Bool) (e : Int) : Calls Try.prog 5 #[.bool ok, .int .i64 e] u.val (Ret B W (.int .i64 (errno ok e))) := by
  cases ok
  all_goals
    go_enter Try.func5, Try.ntmps5
    go_wp2
    go_ret
    exact Ret.mk u rfl

set_option maxHeartbeats 400000 in
theorem c_one {B : Nat} {W : World} (u : Later B W) (x e y f : Int) (he : e = f) (h : if f = 0 then x = y else x = 0) : Calls Try.prog 16 #[.int .i64 x, .int .i64 e, .int .i64 y, .int .i64 f] u.val (Ret B W (.bool true)) := by
  subst he
  rcases ieq e 0 with ⟨g1, d1, d2⟩ | ⟨g1, d1, d2⟩
  · rw [if_pos g1] at h
    subst h g1
    go_enter Try.func16, Try.ntmps16
    go_wp2
    go_ret
    exact Ret.mk u (vbool (by simp))
  · rw [if_neg g1] at h
    subst h
    go_enter Try.func16, Try.ntmps16
    go_wp2
    go_ret
    exact Ret.mk u (vbool (by simp))

set_option maxHeartbeats 400000 in
theorem c_list {B : Nat} {W : World} (u : Later B W) (l m : List Int) (a b : Option Addr) (ca cb : Nat) (e f : Int) (ha : IntsAt B W a l) (hb : IntsAt B W b m) (hlen : l.length ≤ 4611686018427387904) (he : e = f) (h : if f = 0 then l = m else l = []) :
    Calls Try.prog 17 #[.slice a l.length ca, .int .i64 e, .slice b m.length cb, .int .i64 f] u.val (Ret B W (.bool true)) := by
  subst he
  rcases ieq e 0 with ⟨g1, d1, d2⟩ | ⟨g1, d1, d2⟩
  · rw [if_pos g1] at h
    subst h g1
    have H := Lib.hid (c_same u l a b ca cb ha hb hlen); clear ha hb
    go_enter Try.func17, Try.ntmps17
    go_wp2_with (go_at_call 27; refine H.out.mono ?_; rintro e _ ⟨rfl, u1, rfl⟩)
    go_ret
    exact Ret.mk _ rfl
  · rw [if_neg g1] at h
    subst h
    clear ha hb
    go_enter Try.func17, Try.ntmps17
    go_wp2
    go_ret
    exact Ret.mk u (vbool (by simp))

end Go.Proofs.Ytenbeiafdiifgaa

namespace Go.Proofs.Ytenbeiafdiifgaa
open Go.RowKit
set_option linter.unusedVariables false

theorem c_one_yes {B : Nat} {W : World} (u : Later B W) (x : Int) : Calls Try.prog 16 #[.int .i64 x, .int .i64 0, .int .i64 x, .int .i64 0] u.val (Ret B W (.bool true)) := c_one u x 0 x 0 rfl (by rw [if_pos rfl])
theorem c_one_no {B : Nat} {W : World} (u : Later B W) (y e : Int) (he : e ≠ 0) : Calls Try.prog 16 #[.int .i64 0, .int .i64 e, .int .i64 y, .int .i64 e] u.val (Ret B W (.bool true)) := c_one u 0 e y e rfl (by rw [if_neg he])

end Go.Proofs.Ytenbeiafdiifgaa
