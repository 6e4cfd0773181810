
/-
  sets.Choose, sets.Below, sets.Shadow.
  kinds.Uniform; rotalaw.KindsSays$1.
  kinds.forest$1: a vertex's last name.
-/
import Derived.Test.YtffnpokceomncaaPk39
import Derived.Test.YtffnpokceomncaaPk31
import Derived.Test.YtffnpokceomncaaPk34
import Derived.Test.YtffnpokceomncaaPk40
import Derived.IntWalk
import Derived.Test.YtffnpokceomncaaPk35
import Derived.Test.YtffnpokceomncaaPk37
import Derived.Test.YtffnpokceomncaaPk27
import Derived.Test.YtffnpokceomncaaPk17
import Derived.Test.YtffnpokceomncaaPk08
import Derived.Test.YtffnpokceomncaaPk10
namespace Go.Proofs.Ytffnpokceomncaa
open Go.RowKit
set_option linter.unusedVariables false

def isChoice (n k : Int) : Prop := 0 ≤ n ∧ n ≤ 8 ∧ 0 ≤ k ∧ k ≤ n
instance (n k : Int) : Decidable (isChoice n k) := by unfold isChoice; infer_instance

set_option maxRecDepth 100000 in
set_option maxHeartbeats 4000000 in
theorem c_choose {B : Nat} {W : World} (u : Later B W) (m k : Nat) (hm : m ≤ 8) (hk : k ≤ m) :
    Calls Try.prog 49 #[.int .i64 m, .int .i64 k] u.val (RetP B W (ListO B (ints (those m (fun s => decide (sz s = k)))) 0)) := by
  have hb := bit_le m hm
  have hbc := bit_cast m
  have e1 : decide ((m : Int) < 0) = false := decide_eq_false (by omega)
  have e2 : decide (8 < (m : Int)) = false := decide_eq_false (by omega)
  have e3 : decide ((k : Int) < 0) = false := decide_eq_false (by omega)
  have e4 : decide ((m : Int) < (k : Int)) = false := decide_eq_false (by omega)
  have e5 : decide (m < k) = false := decide_eq_false (by omega)
  go_enter Try.func49, Try.ntmps49
  go_wp2
  go_loopw [6, 25] (fun o i wr => ∃ (s : Nat) (ad : Option Addr) (cp : Nat) (v : Later B W), s ≤ bit m ∧ i = .int .i64 s ∧ o = .slice ad (ints (thoseTo (fun s => decide (sz s = k)) s)).length cp ∧ wr = v.val ∧ Hid (Own B v.val ad cp (ints (thoseTo (fun s => decide (sz s = k)) s)))) (fun _ i _ => bit m - (intOf i).toNat)
  case atStart => exact ⟨0, none, 0, u, by omega, rfl, rfl, rfl, Lib.hid (Own.nil _ _)⟩
  case round =>
    clear u
    obtain ⟨s, ad, cp, v, hs, rfl, rfl, rfl, HO⟩ := hrel
    have HE := Lib.hid (thoseTo_step (fun s => decide (sz s = k)) s)
    have HL : Hid ((ints (thoseTo (fun s => decide (sz s = k)) s)).length ≤ 256) := Lib.hid (by rw [ints_len]; have := thoseTo_len (fun s => decide (sz s = k)) s; omega)
    rcases nlt s (bit m) with ⟨hlt, d0⟩ | ⟨hlt, d0⟩
    · have d0' : decide ((s : Int) < (bit m : Int)) = true := decide_eq_true (by omega)
      have KZ : Hid (Calls Try.prog 60 #[.int .u64 s] v.val (Ret v.val.heap.size v.val (.int .i64 (sz s)))) := Lib.hid (c_ones (Later.self v.val) s (by omega))
      generalize thoseTo (fun s => decide (sz s = k)) s = Lt at *
      rcases ieq (sz s : Int) k with ⟨g1, d1, d2⟩ | ⟨g1, d1, d2⟩
      · have G1 : Hid (decide (sz s = k) = true) := Lib.hid (decide_eq_true (by omega))
        clear g1
        generalize sz s = z at *
        go_wp2_with (first | (go_at_call 60; (with_reducible refine (KZ.out).mono ?_); rintro e _ ⟨rfl, v2, rfl⟩) | (at_builtin; refine wpList_push (B := B) (W := W) (w := v2.val) (v.up v2).below (v.up v2).size rfl _ _ rfl (ints Lt) ad cp (s : Int) rfl (HO.out.keep v2.below) rfl (by have := HL.out; omega) ?_; intro u2 ad2 cp2 hown))
        go_roundw
        case rel =>
          refine ⟨s+1, ad2, cp2, u2, by omega, by go_num, ?_, rfl, ?_⟩
          · rw [HE.out]; simp only [G1.out, if_true]; rw [ints_snoc]; simp
          · rw [HE.out]; simp only [G1.out, if_true]; rw [ints_snoc]; exact hown
        case measure => simp [intOf]; omega
      · have G1 : Hid (decide (sz s = k) = false) := Lib.hid (decide_eq_false (by omega))
        clear g1
        generalize sz s = z at *
        go_wp2_with (first | (go_at_call 60; (with_reducible refine (KZ.out).mono ?_); rintro e _ ⟨rfl, v2, rfl⟩))
        go_roundw
        case rel =>
          refine ⟨s+1, ad, cp, v.up v2, by omega, by go_num, ?_, rfl, ?_⟩
          · rw [HE.out]; simp only [G1.out, Bool.false_eq_true, if_false]
          · rw [HE.out]; simp only [G1.out, Bool.false_eq_true, if_false]; exact HO.out.keep v2.below
        case measure => simp [intOf]; omega
    · have hse : s = bit m := by omega
      have d0' : decide ((s : Int) < (bit m : Int)) = false := decide_eq_false (by omega)
      have HO2 : Hid (Own B v.val ad cp (ints (those m (fun s => decide (sz s = k))))) := Lib.hid (by rw [hse] at HO; exact HO.out)
      have hl : (ints (thoseTo (fun s => decide (sz s = k)) s)).length = (ints (those m (fun s => decide (sz s = k)))).length := by rw [hse]; rfl
      rw [hl]
      clear HO HE HL hl
      go_wp2
      go_ret2
      exact RetP.mk v ⟨ad, cp, rfl, HO2.out⟩
set_option maxRecDepth 100000 in
set_option maxHeartbeats 4000000 in
theorem c_choose_no {B : Nat} {W : World} (u : Later B W) (n k : Int) (hc : ¬ isChoice n k) :
    Calls Try.prog 49 #[.int .i64 n, .int .i64 k] u.val (RetP B W (ListE [] 1)) := by
  unfold isChoice at hc
  rcases ilt n 0 with ⟨g1, d1⟩ | ⟨g1, d1⟩
  · clear hc
    go_enter Try.func49, Try.ntmps49
    go_wp2
    go_ret2
    exact RetP.mk u ListE.no
  · rcases ilt 8 n with ⟨g2, d2⟩ | ⟨g2, d2⟩
    · clear hc
      go_enter Try.func49, Try.ntmps49
      go_wp2
      go_ret2
      exact RetP.mk u ListE.no
    · rcases ilt k 0 with ⟨g3, d3⟩ | ⟨g3, d3⟩
      · clear hc
        go_enter Try.func49, Try.ntmps49
        go_wp2
        go_ret2
        exact RetP.mk u ListE.no
      · have g4 : n < k := by omega
        have d4 : decide (n < k) = true := decide_eq_true g4
        clear hc
        go_enter Try.func49, Try.ntmps49
        go_wp2
        go_ret2
        exact RetP.mk u ListE.no

/-! ### Below -/
theorem shr_and2 (x k : Nat) (hx : x < 256) : bits .and .i64 ((x : Int) / 2 ^ k) 1 = (((x.testBit k).toNat : Nat) : Int) := by
  have e1 : ((x : Int) / 2 ^ k) = ((x / 2 ^ k : Nat) : Int) := by simp
  have h1 : x / 2 ^ k ≤ x := Nat.div_le_self _ _
  rw [e1]
  have := i64_and (x / 2 ^ k) 1 (by omega) (by omega)
  rw [show ((1 : Nat) : Int) = 1 from rfl] at this
  rw [this, Nat.and_one_is_mod, Nat.toNat_testBit]
theorem is8 {s : Int} (h : isSet 8 s) : ∃ t : Nat, s = t ∧ t < 256 := by
  obtain ⟨_, _, h1, h2⟩ := h
  have := all_le 8 (by omega)
  exact ⟨s.toNat, by omega, by omega⟩
theorem is8_nat {s : Nat} (h : s < 256) : isSet 8 (s : Int) := by
  have : all 8 = 255 := rfl
  exact ⟨by omega, by omega, by omega, by omega⟩
def ovr (a b k : Nat) : Int := ((elemsTo a k).length : Int) - ((elemsTo b k).length : Int)
theorem ovr_step (a b k : Nat) : ovr a b (k + 1) = ovr a b k + ((((a.testBit k).toNat : Nat) : Int) - (((b.testBit k).toNat : Nat) : Int)) := by
  unfold ovr
  rw [elemsTo_step, elemsTo_step]
  cases a.testBit k <;> cases b.testBit k <;> simp <;> omega
theorem ovr_le (a b k : Nat) : -(k : Int) ≤ ovr a b k ∧ ovr a b k ≤ k := by
  unfold ovr
  have := elemsTo_len a k
  have := elemsTo_len b k
  omega
theorem belB_iff {a b : Nat} : belB a b = true ↔ ∀ i, i < 8 → 0 ≤ ovr a b (i + 1) := by
  unfold belB ovr
  rw [List.all_eq_true]
  constructor
  · intro h i hi
    have := of_decide_eq_true (h i (by simpa using hi))
    omega
  · intro h i hi
    have := h i (by simpa using hi)
    exact decide_eq_true (by omega)
end Go.Proofs.Ytffnpokceomncaa

namespace Go.Proofs.Ytffnpokceomncaa
open Go.RowKit
set_option linter.unusedVariables false

set_option maxRecDepth 100000 in
set_option maxHeartbeats 8000000 in
theorem c_kUniform {B : Nat} {W : World} (u : Later B W) (rank n e n' : Int) (xs' : List Int) (he : e = errno (decide (isChoice n rank)) 1) (hz : ZIf e n' xs')
    (hy : e = 0 → ∃ m k : Nat, n = (m : Int) ∧ rank = (k : Int) ∧ m ≤ 8 ∧ k ≤ m ∧ n' = (m : Nat) ∧ xs' = ints (those m (fun s => decide (sz s = k)))) :
    Calls Try.prog 28 #[.int .i64 rank, .int .i64 n] u.val (RetP B W (MatTO B n' xs' e)) := by
  have hB := u.size
  have HX : Hid (RowL (u.val.alloc (.cells #[.int .i64 0, .slice none 0 0] 45)) u.val.heap.size 45 [.int .i64 0, .slice none 0 0]) := Lib.hid (RowL.new _ _ _)
  have hgY : u.val.heap.size < (u.val.alloc (.cells #[.int .i64 0, .slice none 0 0] 45)).heap.size := by simp
  have HVY : Hid (∀ v : Later (u.val.alloc (.cells #[.int .i64 0, .slice none 0 0] 45)).heap.size (u.val.alloc (.cells #[.int .i64 0, .slice none 0 0] 45)), ∃ w : Later B W, w.val = v.val) := Lib.hid (fun v => ⟨(u.alloc _).up v, rfl⟩)
  have HNo : Hid (e ≠ 0 → 0 = n' ∧ [] = xs') := Lib.hid (fun h => by have := hz h; exact ⟨this.1.symm, this.2.symm⟩)
  have HE := Lib.hid he
  have HY := Lib.hid hy
  clear he hy hz
  go_enter Try.func28, Try.ntmps28
  go_upto_region 1 with fail
  generalize (u.val.alloc (.cells #[.int .i64 0, .slice none 0 0] 45)) = Y at *
  generalize u.val.heap.size = gu at *
  have f0 : ∀ (w : Later Y.heap.size Y), w.val.cell? ⟨gu, 0, none⟩ = some (.int .i64 0) := fun w => (HX.out.keep_at w.below hgY).cell rfl
  have z0 : ∀ (w : Later Y.heap.size Y), w.val.frozen? ⟨gu, 0, none⟩ = false := fun w => (HX.out.keep_at w.below hgY).fz 0
  have f1 : ∀ (w : Later Y.heap.size Y) (x0 : Value), (w.val.setCell ⟨gu, 0, none⟩ x0).cell? ⟨gu, 1, none⟩ = some (.slice none 0 0) := fun w x0 => ((HX.out.keep_at w.below hgY).set 0 x0).cell rfl
  have z1 : ∀ (w : Later Y.heap.size Y) (x0 : Value), (w.val.setCell ⟨gu, 0, none⟩ x0).frozen? ⟨gu, 1, none⟩ = false := fun w x0 => ((HX.out.keep_at w.below hgY).set 0 x0).fz 1
  have hfin : ∀ (v : Later Y.heap.size Y) (nn : Int) (ad : Option Addr) (cp : Nat) (xs : List Int) (ee : Int) (tm : Array Value), Own Y.heap.size v.val ad cp xs → tm.getD 4 undef = .pointer (some ⟨gu, 0, none⟩) → tm.getD 5 undef = .int .i64 ee → nn = n' → xs = xs' → ee = e → bodyPost Try.prog Try.f28 (RetP B W (MatTO B n' xs' e)) .ret { tmps := tm, defers := [] } ((v.val.setCell ⟨gu, 0, none⟩ (.int .i64 nn)).setCell ⟨gu, 1, none⟩ (.slice ad xs.length cp)) := fun v nn ad cp xs ee tm hO h4 h5 e1 e2 e3 => by
    subst e1 e2 e3
    refine bodyPost_ret (results_row (vs := [.int .i64 nn, .slice ad xs.length cp]) rfl _ _ gu h4 (((HX.out.keep v.below).set 0 _).set 1 _) Try.underlying45 (by kernel_rfl)) rfl ?_
    obtain ⟨x1, hx1⟩ := later_set (HVY.out v) (g := gu) (i := 0) (by omega) (.int .i64 nn)
    obtain ⟨x2, hx2⟩ := later_set ⟨x1, hx1⟩ (g := gu) (i := 1) (by omega) (.slice ad xs.length cp)
    exact RetP.of ⟨x2, hx2⟩ ⟨ad, cp, by rw [h5], ((hO.set hgY _).set hgY _).mono (by omega)⟩
  have HF := Lib.hid hfin
  clear hfin
  obtain ⟨z, hzz⟩ : ∃ z : Later Y.heap.size Y, z.val = Y := ⟨Later.self _, rfl⟩
  rw [← hzz]
  clear hzz
  by_cases hc : isChoice n rank
  · have e1 := Lib.hid (show e = 0 by rw [HE.out, decide_eq_true hc]; rfl)
    obtain ⟨m, k, rfl, rfl, hm, hk, hn', hxs'⟩ := HY.out e1.out
    have KC := Lib.hid (c_choose z m k hm hk)
    have HH := Lib.hid (And.intro hn' (And.intro hxs' e1.out))
    clear hc hn' hxs' e1
    have hBY : Y.heap.size ≤ Y.heap.size := Nat.le_refl _
    generalize ints (those m (fun s => decide (sz s = k))) = A at *
    go_wp2_with (first | (go_at_call 49; (with_reducible refine (KC.out).mono ?_); rintro e _ ⟨_, rfl, ⟨ad, cp, rfl, hO⟩, v2, rfl⟩) | fail)
    refine HF.out v2 _ ad cp A 0 _ hO ?_ ?_ HH.out.1.symm HH.out.2.1.symm HH.out.2.2.symm <;> rfl
  · have e1 := Lib.hid (show e = 1 by rw [HE.out, decide_eq_false hc]; rfl)
    have hno := Lib.hid (HNo.out (by have := e1.out; omega))
    have KC := Lib.hid (c_choose_no z n rank hc)
    clear hc
    go_wp2_with (first | (go_at_call 49; (with_reducible refine (KC.out).mono ?_); rintro e _ ⟨_, rfl, ⟨v1, rfl, ad, cp, rfl, hR⟩, v2, rfl⟩) | fail)
    refine HF.out v2 0 none 0 [] 1 _ (Own.nil _ _) ?_ ?_ hno.out.1 hno.out.2 e1.out.symm <;> rfl

set_option maxRecDepth 100000 in
set_option maxHeartbeats 4000000 in
theorem c_uniTell {B : Nat} {W : World} (u : Later B W) (k gl : Nat) (hg : gl < B) (hc : W.cell? ⟨gl, 0, none⟩ = some (.int .i64 k)) (s : Nat) (hs : s < 256) (hk : k ≤ 8) :
    Calls Try.prog 24 #[.int .i64 s, .pointer (some ⟨gl, 0, none⟩)] u.val (Ret B W (.int .i64 ((min k (sz s) : Nat) : Int))) := by
  have q0 : ∀ v : Later B W, v.val.cell? ⟨gl, 0, none⟩ = some (.int .i64 k) := fun v => by rw [v.cell (a := ⟨gl, 0, none⟩) hg, hc]
  have KS := Lib.hid (fun w : Later B W => c_size w s hs)
  clear hc
  have hm : ((min k (sz s) : Nat) : Int) = min (k : Int) (sz s : Int) := by omega
  rw [hm]
  clear hm
  generalize sz s = ss at *
  go_enter Try.func24, Try.ntmps24
  go_wp2
  refine wp_region_later u (by kernel_rfl) (by kernel_rfl) (fun _ => ?_)
  repeat (first | go_big_quiet_step (((go_at_call 25; exact KS.out _))) | (refine wpQuiet_step (fun K hK => ?_); go_simp; refine ⟨_, fun _ => rfl, ?_⟩; refine hK _ ?_; clear hK K))
  refine wpQuiet_nil ?_
  intro u
  go_wp2
  go_ret
  exact Ret.mk u (vint (by first | rfl | omega))

end Go.Proofs.Ytffnpokceomncaa

namespace Go.Proofs.Ytffnpokceomncaa
open Go.RowKit
set_option linter.unusedVariables false

/-- names in a table -/
def nm (p : Nat → Nat) : Nat → Int := fun j => (p j : Int)

set_option maxRecDepth 100000 in
set_option maxHeartbeats 4000000 in
theorem c_find {B : Nat} {W : World} (u : Later B W) (n : Nat) (hn : n ≤ 7) (p : Nat → Nat) (hlt : ∀ j, j < n → p j < n) (d : Nat → Nat) (hd : ∀ j, j < n → p j ≠ j → d (p j) < d j) (gt gb : Nat) (hT : ITab W gt n (nm p)) (hb : W.cell? ⟨gb, 0, none⟩ = some (.slice (some ⟨gt, 0, none⟩) n n)) (hgt : gt < B) (hgb : gb < B) (v r : Nat) (hv : v < n) (hr : Rt p v r) :
    Calls Try.prog 61 #[.int .i64 v, .pointer (some ⟨gb, 0, none⟩)] u.val (Ret B W (.int .i64 r)) := by
  have q0 : u.val.cell? ⟨gb, 0, none⟩ = some (.slice (some ⟨gt, 0, none⟩) n n) := by rw [u.cell (a := ⟨gb, 0, none⟩) hgb, hb]
  have HC : Hid (∀ j, j < n → u.val.cell? ⟨gt, j, none⟩ = some (.int .i64 (p j : Nat))) := Lib.hid (fun j hj => by rw [u.cell (a := ⟨gt, j, none⟩) hgt]; exact hT.cell hj)
  have HL := Lib.hid hlt
  have HD := Lib.hid hd
  have HR := Lib.hid hr
  clear hlt hd hT hb hr
  go_enter Try.func61, Try.ntmps61
  go_wp2
  go_loopw [0] (fun i wr => ∃ (x : Nat), x < n ∧ i = .int .i64 x ∧ wr = u.val ∧ Hid (Rt p x r)) (fun i _ => d (intOf i).toNat)
  case atStart => exact ⟨v, hv, rfl, rfl, HR⟩
  case round =>
    clear HR
    obtain ⟨x, hx, rfl, rfl, HR⟩ := hrel
    have c0 := HC.out x hx
    have hpx := HL.out x hx
    have HS : Hid (p x ≠ x → d (p x) < d x) := Lib.hid (HD.out x hx)
    have HN : Hid (Rt p (p x) r) := Lib.hid HR.out.step
    have HE : Hid (p x = x → x = r) := Lib.hid (fun h => (Rt.self h).one HR.out)
    generalize p x = y at *
    by_cases c : y = x
    · have e := HE.out c
      subst e
      subst c
      go_wp2
      go_ret
      exact Ret.mk u rfl
    · have b1 : ((y : Int) != (x : Int)) = true := by rw [bne_iff_ne]; omega
      have b2 : (y != x) = true := by rw [bne_iff_ne]; omega
      have HM := Lib.hid (HS.out c)
      have HCy := Lib.hid c
      clear HS HE c
      go_wp2
      go_roundw
      case rel => exact ⟨y, hpx, by go_num, trivial, HN⟩
      case measure => have := HM.out; simpa [intOf] using this

end Go.Proofs.Ytffnpokceomncaa
