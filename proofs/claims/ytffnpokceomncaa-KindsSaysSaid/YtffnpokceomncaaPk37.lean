
/-
  A list of bases that the check lets pass, opened.
  rotalaw.MinorsSays.
  rotaref.Column, rotaref.Det.
-/
import Derived.Test.YtffnpokceomncaaPk14
import Derived.Test.YtffnpokceomncaaPk28
import Derived.Test.YtffnpokceomncaaPk36
import Derived.Test.YtffnpokceomncaaPk12
import Derived.Test.YtffnpokceomncaaPk25
import Derived.Test.YtffnpokceomncaaPk03
namespace Go.Proofs.Ytffnpokceomncaa
open Go.RowKit
set_option linter.unusedVariables false

/-- of a matroid: its bases as a list of sets -/
theorem mat_open {n : Int} {l : List Int} (he : MatIs n l 0) : ∃ (m : Nat) (L : List Nat), n = (m : Int) ∧ m ≤ 8 ∧ l = ints L ∧ toN (ints L) = L := by
  have hfam : isFam n l := he.zero.1.1
  obtain ⟨m, rfl⟩ := Int.eq_ofNat_of_zero_le hfam.1
  have hl := fam_ints hfam
  exact ⟨m, toN l, rfl, by have := hfam.2.1; omega, hl.symm, by rw [hl]⟩
/-- what a matroid's list of bases is -/
structure IsMat (m : Nat) (L : List Nat) : Prop where
  ne : L ≠ []
  fam : Fam8 L (sz (L.getD 0 0))
  exch : Exch L
  lt : ∀ b, b ∈ L → b < bit m
  isfam : isFam (m : Int) (ints L)
theorem IsMat.of {m : Nat} {L : List Nat} (he : MatIs (m : Int) (ints L) 0) (hTN : toN (ints L) = L) : IsMat m L := by
  have hz := he.zero
  have hfam : isFam (m : Int) (ints L) := hz.1.1
  exact ⟨by rintro rfl; exact hz.1.2.1 rfl, by have := hz.1.fam8; rwa [hTN] at this, by have := hz.2; rwa [hTN] at this, by have := fam_lt hfam; rw [hTN] at this; simpa using this, hfam⟩

end Go.Proofs.Ytffnpokceomncaa

namespace Go.Proofs.Ytffnpokceomncaa
open Go.RowKit
set_option linter.unusedVariables false

/-- of an error, nothing -/
def ZIf (e n : Int) (xs : List Int) : Prop := e ≠ 0 → n = 0 ∧ xs = []
theorem told_ok {e n : Int} {xs : List Int} (h : ZIf e n xs) : if e = 0 then n = n ∧ xs = xs else n = 0 ∧ xs = [] := by
  split
  · exact ⟨rfl, rfl⟩
  · rename_i c; exact h c
theorem RowL.other {w : World} {g : Nat} {t : TypeId} {vs : List Value} (h : RowL w g t vs) {g' : Nat} (hne : g' ≠ g) (i : Nat) (x : Value) : RowL (w.setCell ⟨g', i, none⟩ x) g t vs := by
  have h' : w.heap[g]? = _ := h
  simp only [RowL, World.setCell, Array.getElem?_modify, h']
  simp [hne]
/-- a matroid in a box, its bases in a row of the call's own -/
def MO (bx : Nat) (w : World) (g : Nat) (n : Int) (ad : Option Addr) (cp : Nat) (xs : List Int) : Prop := RowL w g 45 [.int .i64 n, .slice ad xs.length cp] ∧ Own bx w ad cp xs
theorem MO.later {bx : Nat} {w : World} {g : Nat} {n : Int} {ad : Option Addr} {cp : Nat} {xs : List Int} (h : MO bx w g n ad cp xs) (y : Later w.heap.size w) : MO bx y.val g n ad cp xs := ⟨h.1.keep y.below, h.2.keep y.below⟩
theorem MO.stored {bx : Nat} {w : World} {g : Nat} {n : Int} {ad : Option Addr} {cp : Nat} {xs : List Int} (h : MO bx w g n ad cp xs) {g' : Nat} (hne : g' ≠ g) (hb : g' < bx) (x z : Value) : MO bx ((w.setCell ⟨g', 0, none⟩ x).setCell ⟨g', 1, none⟩ z) g n ad cp xs := ⟨(h.1.other hne 0 x).other hne 1 z, (h.2.set hb x).set hb z⟩
/-- a box is filled -/
theorem MO.fill {bx : Nat} {w : World} {g : Nat} {v0 v1 : Value} {n : Int} {ad : Option Addr} {cp : Nat} {xs : List Int} (h : RowL w g 45 [v0, v1]) (ho : Own bx w ad cp xs) (hb : g < bx) : MO bx ((w.setCell ⟨g, 0, none⟩ (.int .i64 n)).setCell ⟨g, 1, none⟩ (.slice ad xs.length cp)) g n ad cp xs := ⟨(h.set 0 _).set 1 _, (ho.set hb _).set hb _⟩

/-- a matroid in a box, its bases in memory -/
def MB (w : World) (g : Nat) (n : Int) (ad : Option Addr) (cp : Nat) (xs : List Int) : Prop := RowL w g 45 [.int .i64 n, .slice ad xs.length cp] ∧ IntsAt w.heap.size w ad xs
theorem MB.later {w : World} {g : Nat} {n : Int} {ad : Option Addr} {cp : Nat} {xs : List Int} (h : MB w g n ad cp xs) (y : Later w.heap.size w) : MB y.val g n ad cp xs := ⟨h.1.keep y.below, h.2.to y⟩

end Go.Proofs.Ytffnpokceomncaa

namespace Go.Proofs.Ytffnpokceomncaa
open Go.RowKit
set_option linter.unusedVariables false

/-- how much a branch of Det may add -/
def bdt : Nat → Nat
  | 0 => 7
  | f + 1 => 8 * bdt f
theorem bdt_pos : ∀ f, 7 ≤ bdt f
  | 0 => Nat.le_refl _
  | f + 1 => by have := bdt_pos f; simp only [bdt]; omega
def dtF (M : Nat → Nat → Int) (n f i used : Nat) (j : Nat) : Int := if used.testBit j = true then 0 else sg (lft used j) * M i j * dt M n f (i + 1) (used ||| bit j)
theorem dt_succ (M : Nat → Nat → Int) (n f i used : Nat) : dt M n (f + 1) i used = isum (dtF M n f i used) n := rfl
/-- one place more -/
theorem det_step {p : Nat} {S0 S1 S2 sign now tot a b x turn nx d : Int} (h1 : Cg p S1 (S0 + sign * now * (tot - (a + b)))) (h2 : Cg p S2 (S1 + turn * nx * d)) (ht : turn = sign * x) (hb : ∃ y, b = x * y * d ∧ Cg p nx (now * y)) : Cg p S2 (S0 + sign * now * (tot - a)) := by
  obtain ⟨y, rfl, hn⟩ := hb
  subst ht
  have h3 : Cg p (sign * x * nx * d) (sign * x * (now * y) * d) := ((Cg.refl _).mul hn).mul (Cg.refl _)
  refine h2.trans ((h1.add h3).trans (Cg.of_eq ?_))
  grind

/-- what Det's function value hangs on -/
structure DetOk (bn bs bx bf B0 : Nat) (W : World) (n p : Nat) (rows : Lls) (a : Option Addr) (cap : Nat) : Prop where
  base : B0 ≤ bs ∧ bs < W.heap.size ∧ bf < W.heap.size ∧ bf ≠ bs
  prime : PrimeP p
  len : rows.length = n ∧ n ≤ 6
  small : Small p n n (ent rows)
  rl : ∀ i, i < n → (rows.getD i []).length = n
  rows : RowsI B0 W a rows
  cn : ∀ w : Later B0 W, w.val.cell? ⟨bn, 0, none⟩ = some (.int .i64 n)
  x0 : ∀ w : Later B0 W, w.val.cell? ⟨bx, 0, none⟩ = some (.int .i64 p)
  x2 : ∀ w : Later B0 W, w.val.cell? ⟨bx, 2, none⟩ = some (.slice a n cap)
  cf : W.cell? ⟨bf, 0, none⟩ = some (.func (.func 37) #[] #[.pointer (some ⟨bn, 0, none⟩), .pointer (some ⟨bs, 0, none⟩), .pointer (some ⟨bx, 0, none⟩), .pointer (some ⟨bf, 0, none⟩)])
def DetP (bn bs bx bf B0 : Nat) (W : World) (n p : Nat) (rows : Lls) (a : Option Addr) (cap : Nat) (f : Nat) : Prop := ∀ (w : World) (S : Int) (i used : Nat) (sign now : Int), W.grownBy w (some bs) → RowL w bs 3 [.int .i64 S] → i + f = n → used < bit n → (sign = 1 ∨ sign = -1) → (0 ≤ now ∧ now < p) → (-(4000000 - (bdt f : Int)) ≤ S ∧ S ≤ 4000000 - (bdt f : Int)) →
  Calls Try.prog 37 #[.int .i64 i, .int .i64 used, .int .i64 sign, .int .i64 now, .pointer (some ⟨bn, 0, none⟩), .pointer (some ⟨bs, 0, none⟩), .pointer (some ⟨bx, 0, none⟩), .pointer (some ⟨bf, 0, none⟩)] w (fun e w' => e = .returned (.tuple #[]) ∧ w.grownBy w' (some bs) ∧ ∃ S' : Int, RowL w' bs 3 [.int .i64 S'] ∧ Cg p S' (S + sign * now * dt (ent rows) n f i used) ∧ -(bdt f : Int) ≤ S' - S ∧ S' - S ≤ (bdt f : Int))

set_option maxRecDepth 100000 in
set_option maxHeartbeats 8000000 in
theorem c_det0 (bn bs bx bf B0 : Nat) (W : World) (n p : Nat) (rows : Lls) (a : Option Addr) (cap : Nat) (H : DetOk bn bs bx bf B0 W n p rows a cap) : DetP bn bs bx bf B0 W n p rows a cap 0 := by
  intro w S i used sign now hg hS hi hu hsg hnow hSb
  obtain ⟨h1, h2, h3, h4⟩ := H.base
  obtain ⟨u, hu2⟩ : ∃ u : Later B0 W, u.val = w := ⟨⟨w, ⟨hg.os, hg.tape, hg.output, hg.size, fun k hk => hg.block k (by omega) (by simp; omega)⟩, by have := hg.size; omega⟩, rfl⟩
  have cn := H.cn u
  rw [hu2] at cn
  have cs : w.cell? ⟨bs, 0, none⟩ = some (.int .i64 S) := hS.cell rfl
  have fs := hS.fz 0
  have hie : i = n := by omega
  subst hie
  have hp7 := H.prime.le
  have HGr : Hid (∀ x : Value, w.grownBy (w.setCell ⟨bs, 0, none⟩ x) (some bs)) := Lib.hid (fun x => ⟨rfl, rfl, rfl, by simp, fun k hk hne => Below.heap_setCell _ _ _ _ (by rintro rfl; exact hne rfl)⟩)
  have HSn : Hid (∀ x : Value, RowL (w.setCell ⟨bs, 0, none⟩ x) bs 3 [x]) := Lib.hid (fun x => hS.set 0 x)
  have hb7 : bdt 0 = 7 := rfl
  rw [hb7] at hSb
  have HD : Hid (dt (ent rows) i 0 i used = 1) := Lib.hid rfl
  generalize dt (ent rows) i 0 i used = dd at *
  rw [hb7]
  rcases hsg with rfl | rfl
  · have w1 := IntWalk.i64_in now (by omega)
    have w2 := IntWalk.i64_in (S + now) (by omega)
    clear H hg hS hu2 u hu hb7
    go_enter Try.func37, Try.ntmps37
    go_wp2
    refine bodyPost_ret (v := .tuple #[]) (by kernel_rfl) rfl ?_
    exact ⟨rfl, HGr.out _, S + now, HSn.out _, Cg.of_eq (by rw [HD.out]; omega), by omega, by omega⟩
  · have w1 := IntWalk.i64_in (-now) (by omega)
    have w2 := IntWalk.i64_in (S + -now) (by omega)
    clear H hg hS hu2 u hu hb7
    go_enter Try.func37, Try.ntmps37
    go_wp2
    refine bodyPost_ret (v := .tuple #[]) (by kernel_rfl) rfl ?_
    exact ⟨rfl, HGr.out _, S + -now, HSn.out _, Cg.of_eq (by rw [HD.out]; omega), by omega, by omega⟩

theorem cg_zero {p : Nat} {S0 S1 sign now tot a b : Int} (h1 : Cg p S1 (S0 + sign * now * (tot - (a + b)))) (hb : b = 0) : Cg p S1 (S0 + sign * now * (tot - a)) := by
  subst hb
  rwa [Int.add_zero] at h1
theorem sg_cases (k : Nat) : (k % 2 = 1 ∧ sg k = -1) ∨ (k % 2 = 0 ∧ sg k = 1) := by
  unfold sg
  by_cases h : k % 2 = 1
  · exact .inl ⟨h, if_pos h⟩
  · exact .inr ⟨by omega, if_neg h⟩
theorem lft_le (used : Nat) : ∀ j, lft used j ≤ j
  | 0 => Nat.le_refl _
  | j + 1 => by
    have := lft_le used j
    simp only [lft]
    split <;> omega

set_option maxRecDepth 100000 in
set_option maxHeartbeats 16000000 in
theorem c_detStep (bn bs bx bf B0 : Nat) (W : World) (n p : Nat) (rows : Lls) (a : Option Addr) (cap : Nat) (H : DetOk bn bs bx bf B0 W n p rows a cap) (f : Nat) (IH : DetP bn bs bx bf B0 W n p rows a cap f) : DetP bn bs bx bf B0 W n p rows a cap (f + 1) := by
  intro w S i used sign now hg hS hi hu hsg hnow hSb
  obtain ⟨hb1, hb2, hb3, hb4⟩ := H.base
  have hp7 := H.prime.le
  have hn6 := H.len.2
  have hbn := bit_le n (by omega)
  have hbf := bdt_pos f
  have hbe : bdt (f + 1) = 8 * bdt f := rfl
  rw [hbe] at hSb ⊢
  have HL : Hid (∀ w' : World, w.grownBy w' (some bs) → ∃ u : Later B0 W, u.val = w') := Lib.hid (fun w' hg' => by
    have h := World.grownBy.trans hg hg'
    exact ⟨⟨w', ⟨h.os, h.tape, h.output, h.size, fun k hk => h.block k (by omega) (by simp; omega)⟩, by have := h.size; omega⟩, rfl⟩)
  have HIH : Hid (∀ (w' : World) (S : Int) (i used : Nat) (sign now : Int), w.grownBy w' (some bs) → RowL w' bs 3 [.int .i64 S] → i + f = n → used < bit n → (sign = 1 ∨ sign = -1) → (0 ≤ now ∧ now < p) → (-(4000000 - (bdt f : Int)) ≤ S ∧ S ≤ 4000000 - (bdt f : Int)) → Calls Try.prog 37 #[.int .i64 i, .int .i64 used, .int .i64 sign, .int .i64 now, .pointer (some ⟨bn, 0, none⟩), .pointer (some ⟨bs, 0, none⟩), .pointer (some ⟨bx, 0, none⟩), .pointer (some ⟨bf, 0, none⟩)] w' (fun e w2 => e = .returned (.tuple #[]) ∧ w'.grownBy w2 (some bs) ∧ ∃ S' : Int, RowL w2 bs 3 [.int .i64 S'] ∧ Cg p S' (S + sign * now * dt (ent rows) n f i used) ∧ -(bdt f : Int) ≤ S' - S ∧ S' - S ≤ (bdt f : Int))) := Lib.hid (fun w' S i used sign now hg' => IH w' S i used sign now (World.grownBy.trans hg hg'))
  have HCn : Hid (∀ w', w.grownBy w' (some bs) → w'.cell? ⟨bn, 0, none⟩ = some (.int .i64 n) ∧ w'.cell? ⟨bx, 0, none⟩ = some (.int .i64 p) ∧ w'.cell? ⟨bx, 2, none⟩ = some (.slice a n cap) ∧ w'.cell? ⟨bf, 0, none⟩ = some (.func (.func 37) #[] #[.pointer (some ⟨bn, 0, none⟩), .pointer (some ⟨bs, 0, none⟩), .pointer (some ⟨bx, 0, none⟩), .pointer (some ⟨bf, 0, none⟩)])) := Lib.hid (fun w' hg' => by
    obtain ⟨u, hu⟩ := HL.out w' hg'
    refine ⟨by rw [← hu]; exact H.cn u, by rw [← hu]; exact H.x0 u, by rw [← hu]; exact H.x2 u, ?_⟩
    rw [World.cell?_of_block (w := W) ((World.grownBy.trans hg hg').block bf hb3 (by simp; exact hb4))]
    exact H.cf)
  have hiN : i < n := by omega
  obtain ⟨be, ofe, hae, hbe2, adr, cpr, hI, _, hcell⟩ := H.rows.atN (show i < rows.length by rw [H.len.1]; exact hiN)
  have hrl := H.rl i hiN
  have HRow : Hid (∀ w', w.grownBy w' (some bs) → w'.cell? ⟨be, ofe + i, none⟩ = some (.slice adr n cpr)) := Lib.hid (fun w' hg' => by
    obtain ⟨u, hu⟩ := HL.out w' hg'
    have := hcell u
    rw [hrl] at this
    rw [← hu]; exact this)
  obtain ⟨br, ofr, har, hbr, hcr⟩ := hI.at (show i < (rows.getD i []).length by omega)
  have HEnt : Hid (∀ w', w.grownBy w' (some bs) → ∀ j, j < n → w'.cell? ⟨br, ofr + j, none⟩ = some (.int .i64 (ent rows i j))) := Lib.hid (fun w' hg' j hj => by
    obtain ⟨u, hu⟩ := HL.out w' hg'
    rw [← hu]; exact hcr u j (by omega))
  have HSm : Hid (∀ j, j < n → 0 ≤ ent rows i j ∧ ent rows i j < p) := Lib.hid (fun j hj => H.small i j hiN hj)
  have HTot : Hid (dt (ent rows) n (f + 1) i used = isum (dtF (ent rows) n f i used) n) := Lib.hid rfl
  have HF : Hid (∀ j, dtF (ent rows) n f i used j = if used.testBit j = true then 0 else sg (lft used j) * ent rows i j * dt (ent rows) n f (i + 1) (used ||| bit j)) := Lib.hid (fun j => rfl)
  have HFs : Hid (∀ j, isum (dtF (ent rows) n f i used) (j + 1) = isum (dtF (ent rows) n f i used) j + dtF (ent rows) n f i used j) := Lib.hid (fun j => rfl)
  have HS := Lib.hid hS
  have hp1 : ∀ (args : Array Value) (w : World), (callFunc 37 args).run Try.prog w = .ok (.enter 37 args) w := fun _ _ => by kernel_rfl
  subst hae
  subst har
  obtain ⟨c1, c2, c3, c4⟩ := HCn.out w (World.grownBy.refl _ _)
  generalize dtF (ent rows) n f i used = F at *
  have hsi : (-1 ≤ sign ∧ sign ≤ 1) := by rcases hsg with h | h <;> omega
  have f1 : ((i : Int) == (n : Int)) = false := by rw [beq_eq_false_iff_ne]; omega
  have w0 := IntWalk.i64_in ((n : Int) - 1) (by omega)
  rw [HTot.out]
  clear H IH hg hS hcell hcr hI HL hrl hbe2 HTot
  go_enter Try.func37, Try.ntmps37
  go_wp2
  clear c1 c2 c3 c4 f1 w0
  go_loopw [13] (fun x wr => ∃ (q : Nat) (iq : Int) (S' : Int) (t : Nat) (w' : World), q ≤ n ∧ iq = (q : Int) - 1 ∧ x = .int .i64 iq ∧ wr = w' ∧ Hid (w.grownBy w' (some bs)) ∧ Hid (RowL w' bs 3 [.int .i64 S']) ∧ Hid (Cg p S' (S + sign * now * (isum F n - isum F q))) ∧ Hid (-(t : Int) ≤ S' - S ∧ S' - S ≤ t ∧ t + q * bdt f ≤ 6 * bdt f)) (fun x _ => (intOf x + 1).toNat)
  case atStart => exact ⟨n, (n : Int) - 1, S, 0, w, by omega, rfl, by first | rfl | go_num, rfl, Lib.hid (World.grownBy.refl _ _), HS, Lib.hid (Cg.of_eq (by rw [Int.sub_self, Int.mul_zero, Int.add_zero])), Lib.hid (by
    have := Nat.mul_le_mul_right (bdt f) hn6
    omega)⟩
  case round =>
    clear HS
    obtain ⟨q, iq, S', t, w', hq, hiq, rfl, rfl, HG, HS, HC, HT⟩ := hrel
    obtain ⟨c1, c2, c3, c4⟩ := HCn.out wr HG.out
    cases q with
    | zero =>
      have e : iq < 0 := by omega
      have d0 : decide (0 ≤ iq) = false := decide_eq_false (by omega)
      have g0 : ¬ 0 ≤ iq := by omega
      have hT := HT.out
      clear hiq
      clear c1 c2 c3 c4
      go_wp2
      go_end0
      refine ⟨rfl, HG.out, S', HS.out, ?_, ?_, ?_⟩
      · have := HC.out
        rwa [show isum F 0 = 0 from rfl, Int.sub_zero] at this
      · omega
      · omega
    | succ j =>
      have e : iq = (j : Int) := by omega
      subst e
      have hjn : j < n := by omega
      have KI : Hid (Calls Try.prog 38 #[.int .i64 used, .int .i64 j] wr (Ret wr.heap.size wr (.bool (used.testBit j)))) := Lib.hid (c_in (Later.self wr) used j (by omega) (by omega))
      have HFj := Lib.hid (HF.out j)
      have HCs : Hid (Cg p S' (S + sign * now * (isum F n - (isum F j + F j)))) := Lib.hid (by have := HC.out; rwa [HFs.out] at this)
      have HTj : Hid (-(t : Int) ≤ S' - S ∧ S' - S ≤ t ∧ t + bdt f + j * bdt f ≤ 6 * bdt f) := Lib.hid (by
        have := HT.out
        rw [Nat.succ_mul] at this
        omega)
      clear HC HT hiq
      rcases btf (used.testBit j) with g1 | g1
      · rw [g1] at KI HFj
        have HF0 := Lib.hid (cg_zero HCs.out (by rw [HFj.out, if_pos rfl]))
        clear c1 c2 c3 c4 HCs
        go_wp2_with (first | (go_at_call 38; (with_reducible refine (KI.out).mono ?_); rintro e _ ⟨rfl, y, rfl⟩) | fail)
        go_roundw
        case rel => exact ⟨j, (j : Int) - 1, S', t, y.val, by omega, rfl, by go_num, rfl, Lib.hid (World.grownBy.trans HG.out ⟨y.below.os, y.below.tape, y.below.output, y.below.size, fun k hk _ => y.below.block k hk⟩), Lib.hid (HS.out.keep y.below), HF0, Lib.hid (by have := HTj.out; omega)⟩
        case measure => first | (simp [intOf]; omega) | simp [intOf]
      · rw [g1] at KI HFj
        have HFe : Hid (F j = sg (lft used j) * ent rows i j * dt (ent rows) n f (i + 1) (used ||| bit j)) := Lib.hid (by rw [HFj.out, if_neg (by decide)])
        have hlj := lft_le used j
        clear HFj c1 c2 c3 c4
        go_upto_region 7 with (first | (go_at_call 38; (with_reducible refine (KI.out).mono ?_); rintro e _ ⟨rfl, y, rfl⟩) | fail)
        have HG1 : Hid (w.grownBy y.val (some bs)) := Lib.hid (World.grownBy.trans HG.out ⟨y.below.os, y.below.tape, y.below.output, y.below.size, fun k hk _ => y.below.block k hk⟩)
        have HS1 : Hid (RowL y.val bs 3 [.int .i64 S']) := Lib.hid (HS.out.keep y.below)
        obtain ⟨V, hV⟩ : ∃ V, V = y.val := ⟨_, rfl⟩
        obtain ⟨z, hz⟩ : ∃ z : Later V.heap.size V, z.val = V := ⟨Later.self _, rfl⟩
        rw [← hV] at HG1 HS1
        rw [← hV, ← hz]
        clear hV HG HS KI y hz
        have KJ : Hid (∀ (k : Nat) (v : Later V.heap.size V), k < 64 → Calls Try.prog 38 #[.int .i64 used, .int .i64 k] v.val (Ret V.heap.size V (.bool (used.testBit k)))) := Lib.hid (fun k v hk => c_in v used k (by omega) hk)
        go_wp2
        go_loopw [14, 15] (fun l x wr => ∃ (k : Nat) (v : Later V.heap.size V), k ≤ j ∧ l = .int .i64 (lft used k : Nat) ∧ x = .int .i64 k ∧ wr = v.val) (fun _ x _ => j - (intOf x).toNat)
        case atStart => exact ⟨0, z, by omega, rfl, rfl, rfl⟩
        case round =>
          clear z
          obtain ⟨k, v, hk, rfl, rfl, rfl⟩ := hrel
          have hlk := lft_le used k
          by_cases hkj : k < j
          · have KK := Lib.hid (KJ.out k v (by omega))
            have HLn : Hid (lft used (k + 1) = lft used k + (if used.testBit k = true then 0 else 1)) := Lib.hid rfl
            rcases btf (used.testBit k) with g2 | g2
            · rw [g2] at KK HLn
              have HL2 : Hid (lft used (k + 1) = lft used k) := Lib.hid (by rw [HLn.out, if_pos rfl]; rfl)
              clear HLn
              go_wp2_with (first | (go_at_call 38; (with_reducible refine (KK.out).mono ?_); rintro e _ ⟨rfl, y, rfl⟩) | fail)
              go_roundw
              case rel => exact ⟨k + 1, y, by omega, by rw [HL2.out], by go_num, rfl⟩
              case measure => first | (simp [intOf]; omega) | simp [intOf]
            · rw [g2] at KK HLn
              have HL2 : Hid (((lft used k : Nat) : Int) + 1 = ((lft used (k + 1) : Nat) : Int)) := Lib.hid (by rw [HLn.out, if_neg (by decide)]; rfl)
              have w1 := IntWalk.i64_in (((lft used k : Nat) : Int) + 1) (by omega)
              clear HLn
              go_wp2_with (first | (go_at_call 38; (with_reducible refine (KK.out).mono ?_); rintro e _ ⟨rfl, y, rfl⟩) | fail)
              go_roundw
              case rel => exact ⟨k + 1, y, by omega, by rw [← HL2.out], by go_num, rfl⟩
              case measure => first | (simp [intOf]; omega) | simp [intOf]
          · have hke : k = j := by omega
            subst hke
            have HG2 : Hid (w.grownBy v.val (some bs)) := Lib.hid (World.grownBy.trans HG1.out ⟨v.below.os, v.below.tape, v.below.output, v.below.size, fun k hk _ => v.below.block k hk⟩)
            have HS2 : Hid (RowL v.val bs 3 [.int .i64 S']) := Lib.hid (HS1.out.keep v.below)
            obtain ⟨V2, hV2⟩ : ∃ V2, V2 = v.val := ⟨_, rfl⟩
            rw [← hV2] at HG2 HS2 ⊢
            clear hV2 HG1 HS1 KJ v
            have HSg := Lib.hid (sg_cases (lft used k))
            generalize lft used k = lf at *
            obtain ⟨turn, hturn⟩ : ∃ turn, turn = sign * sg lf := ⟨_, rfl⟩
            have HTu := Lib.hid hturn
            have htu : turn = 1 ∨ turn = -1 := by
              rw [hturn]
              rcases HSg.out with ⟨_, e⟩ | ⟨_, e⟩ <;> rw [e] <;> omega
            have HTo : Hid (lf % 2 = 1 → turn = -sign) := Lib.hid (fun h => by
              rcases HSg.out with ⟨_, e⟩ | ⟨e, _⟩
              · rw [HTu.out, e]; omega
              · omega)
            have HTe : Hid (lf % 2 = 0 → turn = sign) := Lib.hid (fun h => by
              rcases HSg.out with ⟨e, _⟩ | ⟨_, e⟩
              · omega
              · rw [HTu.out, e]; omega)
            clear hturn
            have hlf8 : lf < 8 := by omega
            go_upto_if 48 with fail
            go_cut [12] from 46 to 50 (fun x_ w_ => x_ = .int .i64 turn ∧ w_ = V2)
            case first => as_aux_lemma =>
              rcases (show lf % 2 = 1 ∨ lf % 2 = 0 by omega) with hpar | hpar
              · have tm : Int.tmod (lf : Int) 2 = 1 := by rw [Int.tmod_eq_emod_of_nonneg (by omega)]; omega
                have ht := Lib.hid (HTo.out hpar)
                have w1 := IntWalk.i64_in (-sign) (by omega)
                have hm : (lf : Int) % 2 = 1 := by omega
                clear HTo HTe HTu htu
                go_wp2
                go_meet
                case rel => exact ⟨by rw [ht.out], by trivial⟩
              · have tm : Int.tmod (lf : Int) 2 = 0 := by rw [Int.tmod_eq_emod_of_nonneg (by omega)]; omega
                have ht := Lib.hid (HTe.out hpar)
                have hm : (lf : Int) % 2 = 0 := by omega
                clear HTo HTe HTu htu
                go_wp2
                go_meet
                case rel => exact ⟨by rw [ht.out], by trivial⟩
            case rest => as_aux_lemma =>
              obtain ⟨rfl, rfl⟩ := hcut
              clear HTo HTe
              obtain ⟨c1, c2, c3, c4⟩ := HCn.out wc HG2.out
              have cr := HRow.out wc HG2.out
              have ce := HEnt.out wc HG2.out k hjn
              have hsm := HSm.out k hjn
              rcases ieq (ent rows i k) 0 with ⟨g3, d3, _⟩ | ⟨g3, d3, _⟩
              · have HF0 := Lib.hid (cg_zero HCs.out (by rw [HFe.out, g3]; simp))
                rw [g3] at ce
                clear g3 d3 hsm HCs HFe HSm
                go_wp2
                go_roundw
                case rel => exact ⟨k, (k : Int) - 1, S', t, wc, by omega, rfl, by go_num, by trivial, HG2, HS2, HF0, Lib.hid (by have := HTj.out; omega)⟩
                case measure => first | (simp [intOf]; omega) | simp [intOf]
              · have f3 : (ent rows i k != 0) = true := by rw [bne_iff_ne]; exact g3
                have ms := mul_small (a := now) (b := ent rows i k) (by omega) (by omega)
                have wm := IntWalk.i64_in (now * ent rows i k) (by omega)
                have hp0 : (p : Int) ≠ 0 := by omega
                have hpn : p ≠ 0 := by omega
                obtain ⟨nx, hnx⟩ : ∃ nx, nx = (now * ent rows i k) % (p : Int) := ⟨_, rfl⟩
                have hnx2 : 0 ≤ nx ∧ nx < p := by rw [hnx]; exact mod_small p (by omega) _
                have tm : Int.tmod (now * ent rows i k) (p : Int) = nx := by rw [hnx]; exact Int.tmod_eq_emod_of_nonneg ms.1
                have bk := bit_cast k
                have hbk := bit_lt k (by omega)
                have wb := IntWalk.i64_in (bit k : Int) (by omega)
                have o1 := i64_or used (bit k) (by omega) (by omega)
                have w2 := IntWalk.i64_in ((i : Int) + 1) (by omega)
                have hub : used ||| bit k < bit n := or_lt_bit hu (bit_lt_bit hjn)
                have hTj := HTj.out
                have HGd : Hid (w.grownBy wc.drew (some bs)) := Lib.hid (World.grownBy.trans HG2.out ⟨rfl, (Below.refl 0 wc).drew.tape, rfl, Nat.le_refl _, fun _ _ _ => rfl⟩)
                have KN : Hid (Calls Try.prog 37 #[.int .i64 ((i : Int) + 1), .int .i64 ((used ||| bit k : Nat) : Int), .int .i64 turn, .int .i64 nx, .pointer (some ⟨bn, 0, none⟩), .pointer (some ⟨bs, 0, none⟩), .pointer (some ⟨bx, 0, none⟩), .pointer (some ⟨bf, 0, none⟩)] wc.drew (fun e w2 => e = .returned (.tuple #[]) ∧ w.grownBy w2 (some bs) ∧ ∃ S2 : Int, RowL w2 bs 3 [.int .i64 S2] ∧ Cg p S2 (S' + turn * nx * dt (ent rows) n f (i + 1) (used ||| bit k)) ∧ -(bdt f : Int) ≤ S2 - S' ∧ S2 - S' ≤ (bdt f : Int))) := Lib.hid (by
                  have := HIH.out wc.drew S' (i + 1) (used ||| bit k) turn nx HGd.out HS2.out (by omega) hub htu hnx2 (by omega)
                  rw [show ((i + 1 : Nat) : Int) = (i : Int) + 1 by omega] at this
                  refine this.mono ?_
                  rintro e w2 ⟨h1, h2, h3⟩
                  exact ⟨h1, World.grownBy.trans HGd.out h2, h3⟩)
                have HNx : Hid (Cg p nx (now * ent rows i k)) := Lib.hid (by rw [hnx]; exact Cg.mod _)
                have HFe2 : Hid (F k = sg lf * ent rows i k * dt (ent rows) n f (i + 1) (used ||| bit k)) := HFe
                have HSS : Hid (∀ w', w.grownBy w' (some bs) → w'.cell? ⟨br, ofr + k, none⟩ = some (.int .i64 (ent rows i k))) := Lib.hid (fun w' hg' => HEnt.out w' hg' k hjn)
                clear HEnt hnx ms g3 d3 HSm HIH hTj
                generalize ent rows i k = ek at *
                have sW : ∀ w', w.grownBy w' (some bs) → w'.cell? ⟨bf, 0, none⟩ = some (.func (.func 37) #[] #[.pointer (some ⟨bn, 0, none⟩), .pointer (some ⟨bs, 0, none⟩), .pointer (some ⟨bx, 0, none⟩), .pointer (some ⟨bf, 0, none⟩)]) ∧ w'.cell? ⟨bx, 0, none⟩ = some (.int .i64 p) ∧ w'.cell? ⟨bx, 2, none⟩ = some (.slice (some ⟨be, ofe, none⟩) n cap) ∧ w'.cell? ⟨be, ofe + i, none⟩ = some (.slice (some ⟨br, ofr, none⟩) n cpr) ∧ w'.cell? ⟨br, ofr + k, none⟩ = some (.int .i64 ek) := fun w' hg' => by
                  obtain ⟨_, e2, e3, e4⟩ := HCn.out w' hg'
                  exact ⟨e4, e2, e3, HRow.out w' hg', HSS.out w' hg'⟩
                have sD := sW _ HGd.out
                go_upto_region 17 with fail
                clear c1 c2 c3 c4 cr ce
                go_region_held3 (fun w' => w'.cell? ⟨bf, 0, none⟩ = some (.func (.func 37) #[] #[.pointer (some ⟨bn, 0, none⟩), .pointer (some ⟨bs, 0, none⟩), .pointer (some ⟨bx, 0, none⟩), .pointer (some ⟨bf, 0, none⟩)]) ∧ w'.cell? ⟨bx, 0, none⟩ = some (.int .i64 p) ∧ w'.cell? ⟨bx, 2, none⟩ = some (.slice (some ⟨be, ofe, none⟩) n cap) ∧ w'.cell? ⟨be, ofe + i, none⟩ = some (.slice (some ⟨br, ofr, none⟩) n cpr) ∧ w'.cell? ⟨br, ofr + k, none⟩ = some (.int .i64 ek)) (first | exact sD | exact sW _ hG3 | fail) (first | (go_at_call 37; ((with_reducible refine (KN.out).mono ?_); rintro e w4 ⟨rfl, hG3, S2, hS3, hC3, hb3', hb4'⟩)) | fail)
                all_goals
                  have HC3 := Lib.hid (det_step HCs.out hC3 HTu.out ⟨ek, HFe2.out, HNx.out⟩)
                  clear hC3
                  go_wp2
                  go_roundw
                  case rel => exact ⟨k, (k : Int) - 1, S2, t + bdt f, w4, by omega, rfl, by go_num, by trivial, Lib.hid hG3, Lib.hid hS3, HC3, Lib.hid (by have := HTj.out; omega)⟩
                  case measure => first | (simp [intOf]; omega) | simp [intOf]

end Go.Proofs.Ytffnpokceomncaa
