
/-
  rotalaw.MinorsSays.
  The function value of a relaxed circuit; matroids in boxes while a law goes on.
-/
import Derived.Test.YtefkhnibempibaaPk17
import Derived.Test.YtefkhnibempibaaPk35
import Derived.Test.YtefkhnibempibaaPk36
import Derived.Test.YtefkhnibempibaaPk08
import Derived.Test.YtefkhnibempibaaPk22
import Derived.Test.YtefkhnibempibaaPk32
namespace Go.Proofs.Ytefkhnibempibaa
open Go.RowKit
set_option linter.unusedVariables false

/-- of an error, nothing -/
def ZIf (e n : Int) (xs : List Int) : Prop := e ≠ 0 → n = 0 ∧ xs = []
theorem told_ok {e n : Int} {xs : List Int} (h : ZIf e n xs) : if e = 0 then n = n ∧ xs = xs else n = 0 ∧ xs = [] := by
  split
  · exact ⟨rfl, rfl⟩
  · rename_i c; exact h c
theorem RowL.other {w : World} {g : Nat} {t : TypeId} {vs : List Value} (h : RowL w g t vs) {g' : Nat} (hne : g' ≠ g) (i : Nat) (x : Value) : RowL (w.setCell ⟨g', i, none⟩ x) g t vs := by
  have h' : w.heap[g]? = _ := h
  simp only [RowL, World.setCell, Array.getElem?_modify, h']
  simp [hne]
/-- a matroid in a box, its bases in a row of the call's own -/
def MO (bx : Nat) (w : World) (g : Nat) (n : Int) (ad : Option Addr) (cp : Nat) (xs : List Int) : Prop := RowL w g 24 [.int .i64 n, .slice ad xs.length cp] ∧ Own bx w ad cp xs
theorem MO.later {bx : Nat} {w : World} {g : Nat} {n : Int} {ad : Option Addr} {cp : Nat} {xs : List Int} (h : MO bx w g n ad cp xs) (y : Later w.heap.size w) : MO bx y.val g n ad cp xs := ⟨h.1.keep y.below, h.2.keep y.below⟩
theorem MO.stored {bx : Nat} {w : World} {g : Nat} {n : Int} {ad : Option Addr} {cp : Nat} {xs : List Int} (h : MO bx w g n ad cp xs) {g' : Nat} (hne : g' ≠ g) (hb : g' < bx) (x z : Value) : MO bx ((w.setCell ⟨g', 0, none⟩ x).setCell ⟨g', 1, none⟩ z) g n ad cp xs := ⟨(h.1.other hne 0 x).other hne 1 z, (h.2.set hb x).set hb z⟩
/-- a box is filled -/
theorem MO.fill {bx : Nat} {w : World} {g : Nat} {v0 v1 : Value} {n : Int} {ad : Option Addr} {cp : Nat} {xs : List Int} (h : RowL w g 24 [v0, v1]) (ho : Own bx w ad cp xs) (hb : g < bx) : MO bx ((w.setCell ⟨g, 0, none⟩ (.int .i64 n)).setCell ⟨g, 1, none⟩ (.slice ad xs.length cp)) g n ad cp xs := ⟨(h.set 0 _).set 1 _, (ho.set hb _).set hb _⟩

/-- a matroid in a box, its bases in memory -/
def MB (w : World) (g : Nat) (n : Int) (ad : Option Addr) (cp : Nat) (xs : List Int) : Prop := RowL w g 24 [.int .i64 n, .slice ad xs.length cp] ∧ IntsAt w.heap.size w ad xs
theorem MB.later {w : World} {g : Nat} {n : Int} {ad : Option Addr} {cp : Nat} {xs : List Int} (h : MB w g n ad cp xs) (y : Later w.heap.size w) : MB y.val g n ad cp xs := ⟨h.1.keep y.below, h.2.to y⟩

end Go.Proofs.Ytefkhnibempibaa

namespace Go.Proofs.Ytefkhnibempibaa
open Go.RowKit
set_option linter.unusedVariables false

set_option maxRecDepth 100000 in
set_option maxHeartbeats 4000000 in
theorem c_relTell {B : Nat} {W : World} (u : Later B W) (L : List Nat) (t s : Nat) (n : Int) (a : Option Addr) (cap gs gm : Nat) (hgs : gs < B) (hgm : gm < B) (hs : W.cell? ⟨gs, 0, none⟩ = some (.int .i64 s)) (hm : W.cell? ⟨gm, 1, none⟩ = some (.slice a (ints L).length cap)) (hlen : (ints L).length ≤ 4611686018427387904) (h : IntsAt B W a (ints L)) :
    Calls Try.prog 16 #[.int .i64 t, .pointer (some ⟨gs, 0, none⟩), .pointer (some ⟨gm, 0, none⟩)] u.val (Ret B W (.bool (memB (L ++ [s]) t))) := by
  have q0 : ∀ v : Later B W, v.val.cell? ⟨gs, 0, none⟩ = some (.int .i64 s) := fun v => by rw [v.cell hgs, hs]
  have q1 : ∀ v : Later B W, v.val.cell? ⟨gm, 1, none⟩ = some (.slice a (ints L).length cap) := fun v => by rw [v.cell hgm, hm]
  have q0u := q0 u
  have q1u := q1 u
  have KH : Hid (Calls Try.prog 7 #[.slice a (ints L).length cap, .int .i64 t] u.val (Ret B W (.bool (decide (t ∈ L))))) := Lib.hid (by
    have := c_has u (ints L) (t : Int) a cap h (by omega)
    rwa [show decide ((t : Int) ∈ ints L) = decide (t ∈ L) by simp only [mem_ints]] at this)
  rcases ieq (t : Int) (s : Int) with ⟨h1, d1, _⟩ | ⟨h1, d1, _⟩
  · have hr : memB (L ++ [s]) t = true := by
      unfold memB
      rw [decide_eq_true_eq, List.mem_append, List.mem_singleton]
      right; omega
    rw [hr]
    have he : t = s := by omega
    subst he
    clear hs hm h hr h1 KH
    go_enter Try.func16, Try.ntmps16
    go_wp2
    go_ret
    exact Ret.mk u rfl
  · have hr : memB (L ++ [s]) t = decide (t ∈ L) := by
      unfold memB
      rw [Bool.eq_iff_iff, decide_eq_true_eq, decide_eq_true_eq, List.mem_append, List.mem_singleton]
      constructor
      · rintro (h | h)
        · exact h
        · exact absurd (by omega) h1
      · exact .inl
    rw [hr]
    have H1 := Lib.hid h1
    clear hs hm h hr h1
    generalize decide (t ∈ L) = d at *
    cases d
    all_goals
      go_enter Try.func16, Try.ntmps16
      go_wp2_with (first | (go_at_call 7; (with_reducible refine (KH.out).mono ?_); rintro e _ ⟨rfl, v2, rfl⟩) | fail)
      go_ret
      exact Ret.mk v2 rfl

/-! ### matroids in boxes -/
/-- a matroid in a box, its bases in a row of the call's own -/
def MX (bx : Nat) (w : World) (g : Nat) (n : Int) (xs : List Int) : Prop := ∃ ad cp, MO bx w g n ad cp xs
theorem MX.later {bx g : Nat} {w : World} {n : Int} {xs : List Int} (h : MX bx w g n xs) (y : Later w.heap.size w) : MX bx y.val g n xs := by
  obtain ⟨ad, cp, h⟩ := h; exact ⟨ad, cp, h.later y⟩
theorem MX.stored {bx g g' : Nat} {w : World} {n : Int} {xs : List Int} (h : MX bx w g n xs) (hne : g' ≠ g) (hb : g' < bx) (x z : Value) : MX bx ((w.setCell ⟨g', 0, none⟩ x).setCell ⟨g', 1, none⟩ z) g n xs := by
  obtain ⟨ad, cp, h⟩ := h; exact ⟨ad, cp, h.stored hne hb x z⟩
theorem MX.fill {bx g : Nat} {w : World} {n0 n : Int} {xs0 xs : List Int} {ad : Option Addr} {cp : Nat} (h : MX bx w g n0 xs0) (ho : Own bx w ad cp xs) (hb : g < bx) : MX bx ((w.setCell ⟨g, 0, none⟩ (.int .i64 n)).setCell ⟨g, 1, none⟩ (.slice ad xs.length cp)) g n xs := by
  obtain ⟨_, _, h1, _⟩ := h
  exact ⟨ad, cp, MO.fill h1 ho hb⟩
theorem MX.nil {bx g : Nat} {w : World} (h : RowL w g 24 [.int .i64 0, .slice none 0 0]) : MX bx w g 0 [] := ⟨none, 0, h, Own.nil _ _⟩
theorem MX.as {bx g : Nat} {w : World} (h : MX bx w g 0 []) {e n : Int} {xs : List Int} (hz : ZIf e n xs) (he : e ≠ 0) : MX bx w g n xs := by
  obtain ⟨rfl, rfl⟩ := hz he
  exact h
theorem Own.later {bx : Nat} {w : World} {ad : Option Addr} {cp : Nat} {xs : List Int} (h : Own bx w ad cp xs) (y : Later w.heap.size w) : Own bx y.val ad cp xs := h.keep y.below
/-- four matroids in boxes -/
structure St4 (V : World) (bx g1 g2 g3 g4 : Nat) (n1 : Int) (xs1 : List Int) (n2 : Int) (xs2 : List Int) (n3 : Int) (xs3 : List Int) (n4 : Int) (xs4 : List Int) (w : World) : Prop where
  lat : ∃ v : Later V.heap.size V, v.val = w
  hbx : bx ≤ w.heap.size
  m1 : MX bx w g1 n1 xs1
  m2 : MX bx w g2 n2 xs2
  m3 : MX bx w g3 n3 xs3
  m4 : MX bx w g4 n4 xs4
/-- and two lists -/
def St6 (V : World) (bx g1 g2 g3 g4 : Nat) (n1 : Int) (xs1 : List Int) (n2 : Int) (xs2 : List Int) (n3 : Int) (xs3 : List Int) (n4 : Int) (xs4 : List Int) (a5 : Option Addr) (c5 : Nat) (xs5 : List Int) (a6 : Option Addr) (c6 : Nat) (xs6 : List Int) (w : World) : Prop :=
  St4 V bx g1 g2 g3 g4 n1 xs1 n2 xs2 n3 xs3 n4 xs4 w ∧ Own bx w a5 c5 xs5 ∧ Own bx w a6 c6 xs6
/-- the state behind the first branch -/
def StB (V : World) (bx g1 g2 g3 g4 : Nat) (n4 : Int) (xs4 : List Int) (g h : Int) (xs5 xs6 : List Int) (x9 x10 x15 x16 : Value) (w : World) : Prop :=
  x9 = .int .i64 g ∧ x10 = .int .i64 h ∧ ∃ a5 c5 a6 c6, x15 = .slice a5 xs5.length c5 ∧ x16 = .slice a6 xs6.length c6 ∧ St6 V bx g1 g2 g3 g4 0 [] 0 [] 0 [] n4 xs4 a5 c5 xs5 a6 c6 xs6 w
/-- a number, in a later world -/
def IAt (V : World) (e : Int) (y : Value) (w : World) : Prop := y = .int .i64 e ∧ ∃ v : Later V.heap.size V, w = v.val
theorem IAt.of {V w : World} {e : Int} (h : Bel V w) : IAt V e (.int .i64 e) w := by
  obtain ⟨v, rfl⟩ := h.later
  exact ⟨rfl, v, rfl⟩
theorem Bel.refl (w : World) : Bel w w := ⟨Below.refl _ _, Nat.le_refl _⟩
theorem Bel.trans {a b c : World} (h : Bel a b) (k : Bel b c) : Bel a c := ⟨h.1.trans (k.1.mono h.2), Nat.le_trans h.2 k.2⟩
theorem MX.bel {bx g : Nat} {w w' : World} {n : Int} {xs : List Int} (h : MX bx w g n xs) (hb : Bel w w') : MX bx w' g n xs := by
  obtain ⟨v, rfl⟩ := hb.later
  exact h.later v
theorem Own.bel {bx : Nat} {w w' : World} {ad : Option Addr} {cp : Nat} {xs : List Int} (h : Own bx w ad cp xs) (hb : Bel w w') : Own bx w' ad cp xs := h.keep hb.1
theorem St4.bel {V w w' : World} {bx g1 g2 g3 g4 : Nat} {n1 n2 n3 n4 : Int} {xs1 xs2 xs3 xs4 : List Int} (S : St4 V bx g1 g2 g3 g4 n1 xs1 n2 xs2 n3 xs3 n4 xs4 w) (hb : Bel w w') : St4 V bx g1 g2 g3 g4 n1 xs1 n2 xs2 n3 xs3 n4 xs4 w' := by
  obtain ⟨v, rfl⟩ := S.lat
  exact ⟨((Bel.of v).trans hb).later, Nat.le_trans S.hbx hb.2, S.m1.bel hb, S.m2.bel hb, S.m3.bel hb, S.m4.bel hb⟩
theorem St6.bel {V w w' : World} {bx g1 g2 g3 g4 : Nat} {n1 n2 n3 n4 : Int} {xs1 xs2 xs3 xs4 xs5 xs6 : List Int} {a5 a6 : Option Addr} {c5 c6 : Nat} (S : St6 V bx g1 g2 g3 g4 n1 xs1 n2 xs2 n3 xs3 n4 xs4 a5 c5 xs5 a6 c6 xs6 w) (hb : Bel w w') : St6 V bx g1 g2 g3 g4 n1 xs1 n2 xs2 n3 xs3 n4 xs4 a5 c5 xs5 a6 c6 xs6 w' := ⟨S.1.bel hb, S.2.1.bel hb, S.2.2.bel hb⟩
/-- the boxes lie one behind the other -/
def Lie (V : World) (bx g1 g2 g3 g4 : Nat) : Prop := V.heap.size ≤ g1 ∧ g2 = g1 + 1 ∧ g3 = g1 + 2 ∧ g4 = g1 + 3 ∧ bx = g1 + 4
theorem lat_set {V w : World} (h : ∃ v : Later V.heap.size V, v.val = w) {g : Nat} (hg : V.heap.size ≤ g) (x z : Value) : ∃ v : Later V.heap.size V, v.val = (w.setCell ⟨g, 0, none⟩ x).setCell ⟨g, 1, none⟩ z := by
  obtain ⟨v, rfl⟩ := h
  exact ((((Bel.of v).set (a := ⟨g, 0, none⟩) hg x)).set (a := ⟨g, 1, none⟩) hg z).later
theorem size_set (w : World) (g : Nat) (x z : Value) : ((w.setCell ⟨g, 0, none⟩ x).setCell ⟨g, 1, none⟩ z).heap.size = w.heap.size := by simp
section
variable {V w w' : World} {bx g1 g2 g3 g4 : Nat} {n1 n2 n3 n4 n : Int} {xs1 xs2 xs3 xs4 xs5 xs6 xs : List Int} {a5 a6 ad : Option Addr} {c5 c6 cp : Nat}
theorem St4.fill4 (S : St4 V bx g1 g2 g3 g4 n1 xs1 n2 xs2 n3 xs3 n4 xs4 w) (hG : Lie V bx g1 g2 g3 g4) (hb : Bel w w') (hO : Own bx w' ad cp xs) : St4 V bx g1 g2 g3 g4 n1 xs1 n2 xs2 n3 xs3 n xs ((w'.setCell ⟨g4, 0, none⟩ (.int .i64 n)).setCell ⟨g4, 1, none⟩ (.slice ad xs.length cp)) := by
  have S' := S.bel hb
  unfold Lie at hG
  exact ⟨lat_set S'.lat (by omega) _ _, by rw [size_set]; exact S'.hbx, S'.m1.stored (by omega) (by omega) _ _, S'.m2.stored (by omega) (by omega) _ _, S'.m3.stored (by omega) (by omega) _ _, S'.m4.fill hO (by omega)⟩
theorem St6.fill1 (S : St6 V bx g1 g2 g3 g4 n1 xs1 n2 xs2 n3 xs3 n4 xs4 a5 c5 xs5 a6 c6 xs6 w) (hG : Lie V bx g1 g2 g3 g4) (hb : Bel w w') (hO : Own bx w' ad cp xs) : St6 V bx g1 g2 g3 g4 n xs n2 xs2 n3 xs3 n4 xs4 a5 c5 xs5 a6 c6 xs6 ((w'.setCell ⟨g1, 0, none⟩ (.int .i64 n)).setCell ⟨g1, 1, none⟩ (.slice ad xs.length cp)) := by
  have S' := S.bel hb
  unfold Lie at hG
  have hlt : g1 < bx := by omega
  exact ⟨⟨lat_set S'.1.lat (by omega) _ _, by rw [size_set]; exact S'.1.hbx, S'.1.m1.fill hO (by omega), S'.1.m2.stored (by omega) (by omega) _ _, S'.1.m3.stored (by omega) (by omega) _ _, S'.1.m4.stored (by omega) (by omega) _ _⟩, (S'.2.1.set hlt _).set hlt _, (S'.2.2.set hlt _).set hlt _⟩
theorem St6.fill2 (S : St6 V bx g1 g2 g3 g4 n1 xs1 n2 xs2 n3 xs3 n4 xs4 a5 c5 xs5 a6 c6 xs6 w) (hG : Lie V bx g1 g2 g3 g4) (hb : Bel w w') (hO : Own bx w' ad cp xs) : St6 V bx g1 g2 g3 g4 n1 xs1 n xs n3 xs3 n4 xs4 a5 c5 xs5 a6 c6 xs6 ((w'.setCell ⟨g2, 0, none⟩ (.int .i64 n)).setCell ⟨g2, 1, none⟩ (.slice ad xs.length cp)) := by
  have S' := S.bel hb
  unfold Lie at hG
  have hlt : g2 < bx := by omega
  exact ⟨⟨lat_set S'.1.lat (by omega) _ _, by rw [size_set]; exact S'.1.hbx, S'.1.m1.stored (by omega) (by omega) _ _, S'.1.m2.fill hO (by omega), S'.1.m3.stored (by omega) (by omega) _ _, S'.1.m4.stored (by omega) (by omega) _ _⟩, (S'.2.1.set hlt _).set hlt _, (S'.2.2.set hlt _).set hlt _⟩
theorem St6.fill3 (S : St6 V bx g1 g2 g3 g4 n1 xs1 n2 xs2 n3 xs3 n4 xs4 a5 c5 xs5 a6 c6 xs6 w) (hG : Lie V bx g1 g2 g3 g4) (hb : Bel w w') (hO : Own bx w' ad cp xs) : St6 V bx g1 g2 g3 g4 n1 xs1 n2 xs2 n xs n4 xs4 a5 c5 xs5 a6 c6 xs6 ((w'.setCell ⟨g3, 0, none⟩ (.int .i64 n)).setCell ⟨g3, 1, none⟩ (.slice ad xs.length cp)) := by
  have S' := S.bel hb
  unfold Lie at hG
  have hlt : g3 < bx := by omega
  exact ⟨⟨lat_set S'.1.lat (by omega) _ _, by rw [size_set]; exact S'.1.hbx, S'.1.m1.stored (by omega) (by omega) _ _, S'.1.m2.stored (by omega) (by omega) _ _, S'.1.m3.fill hO (by omega), S'.1.m4.stored (by omega) (by omega) _ _⟩, (S'.2.1.set hlt _).set hlt _, (S'.2.2.set hlt _).set hlt _⟩
end
theorem list_ok {e : Int} {xs : List Int} (h : e ≠ 0 → xs = []) : if e = 0 then xs = xs else xs = [] := by
  split
  · rfl
  · rename_i c; exact h c
theorem MB.bel {w w' : World} {g : Nat} {n : Int} {ad : Option Addr} {cp : Nat} {xs : List Int} (h : MB w g n ad cp xs) (hb : Bel w w') : MB w' g n ad cp xs := by
  obtain ⟨v, rfl⟩ := hb.later
  exact h.later v
theorem IntsAt.bel {w w' : World} {ad : Option Addr} {xs : List Int} (h : IntsAt w.heap.size w ad xs) (hb : Bel w w') : IntsAt w'.heap.size w' ad xs := by
  obtain ⟨v, rfl⟩ := hb.later
  exact h.to v

end Go.Proofs.Ytefkhnibempibaa
