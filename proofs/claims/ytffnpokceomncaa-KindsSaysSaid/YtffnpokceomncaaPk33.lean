
/-
  rotaref.Unbroken, Above, Chains.
  Boxes that a drawing region makes in whatever order: rules by which a walk knows their cells.
  kinds.greatest.
-/
import Derived.Test.YtffnpokceomncaaPk30
import Derived.Test.YtffnpokceomncaaPk32
import Derived.Test.YtffnpokceomncaaPk10
import Derived.Test.YtffnpokceomncaaPk02
import Derived.Test.YtffnpokceomncaaPk23
import Derived.Test.YtffnpokceomncaaPk28
import Derived.Test.YtffnpokceomncaaPk11
namespace Go.Proofs.Ytffnpokceomncaa
open Go.RowKit
set_option linter.unusedVariables false

theorem RowAt1.set {w : World} {g : Nat} {t : TypeId} {v : Value} (h : RowAt1 w g t v) (x : Value) : RowAt1 (w.setCell ⟨g, 0, none⟩ x) g t x := by
  have h' : w.heap[g]? = _ := h
  simp only [RowAt1, World.setCell, Array.getElem?_modify, h']
  simp
theorem RowAt1.fz {w : World} {g : Nat} {t : TypeId} {v : Value} (h : RowAt1 w g t v) : w.frozen? ⟨g, 0, none⟩ = false := by
  have h' : w.heap[g]? = _ := h
  unfold World.frozen?
  rw [h']; simp

end Go.Proofs.Ytffnpokceomncaa

namespace Go.Proofs.Ytffnpokceomncaa
open Go.RowKit
set_option linter.unusedVariables false

/-- a world later than Y, without a name of its own -/
def Bel (Y w : World) : Prop := Below Y.heap.size Y w ∧ Y.heap.size ≤ w.heap.size
theorem Bel.of {Y : World} (v : Later Y.heap.size Y) : Bel Y v.val := ⟨v.below, v.size⟩
theorem Bel.up {Y w : World} (h : Bel Y w) (v : Later w.heap.size w) : Bel Y v.val := ⟨h.1.trans (v.below.mono h.2), Nat.le_trans h.2 v.size⟩
theorem Bel.alloc {Y w : World} (h : Bel Y w) (o : Obj) : Bel Y (w.alloc o) := ⟨h.1.alloc h.2 o, by simp; have := h.2; omega⟩
theorem Bel.drew {Y w : World} (h : Bel Y w) : Bel Y w.drew := ⟨h.1.drew, h.2⟩
theorem Bel.set {Y w : World} (h : Bel Y w) {a : Addr} (hs : Y.heap.size ≤ a.block) (x : Value) : Bel Y (w.setCell a x) := ⟨h.1.setCell hs x, by simp; exact h.2⟩
theorem Bel.sz {Y w : World} (h : Bel Y w) : Y.heap.size ≤ w.heap.size := h.2
theorem Bel.later {Y w : World} (h : Bel Y w) : ∃ v : Later Y.heap.size Y, v.val = w := ⟨⟨w, h.1, h.2⟩, rfl⟩

/-- a box of one cell -/
def RB (t : TypeId) (v : Value) (w : World) (g : Nat) : Prop := RowAt1 w g t v
section
variable {t : TypeId} {v : Value} {w : World} {g : Nat}
theorem RB.cell (h : RB t v w g) : w.cell? ⟨g, 0, none⟩ = some v := h.c0
theorem RB.fz (h : RB t v w g) : w.frozen? ⟨g, 0, none⟩ = false := RowAt1.fz h
theorem RB.new (t : TypeId) (v : Value) (w : World) : RB t v (w.alloc (.cells #[v] t)) w.heap.size := RowAt1.new w t v
theorem RB.new2 (t : TypeId) (v : Value) (w : World) (o : Obj) : RB t v ((w.alloc o).alloc (.cells #[v] t)) (w.heap.size + 1) := by
  have h := RowAt1.new (w.alloc o) t v
  have e : (w.alloc o).heap.size = w.heap.size + 1 := by simp
  rw [e] at h
  exact h
theorem RB.alloc (h : RB t v w g) (o : Obj) : RB t v (w.alloc o) g := RowAt1.keep h ((Below.refl _ _).alloc (Nat.le_refl _) _)
theorem RB.drew (h : RB t v w g) : RB t v w.drew g := h
theorem RB.up (h : RB t v w g) (y : Later w.heap.size w) : RB t v y.val g := RowAt1.keep h y.below
theorem RB.set {g' : Nat} (h : RB t v w g) (hne : g' ≠ g) (x : Value) : RB t v (w.setCell ⟨g', 0, none⟩ x) g := by
  have h' : w.heap[g]? = _ := h
  simp only [RB, RowAt1, World.setCell, Array.getElem?_modify, h']
  simp [hne]
theorem RB.same (h : RB t v w g) (x : Value) : RB t x (w.setCell ⟨g, 0, none⟩ x) g := RowAt1.set h x
theorem RB.ne (h : RB t v w g) (y : Later w.heap.size w) : (g = y.val.heap.size) = False := by
  have h1 := RowAt1.lt h
  have h2 := y.size
  rw [eq_iff_iff, iff_false]; omega
theorem RB.ne' (h : RB t v w g) (y : Later w.heap.size w) : (y.val.heap.size = g) = False := by
  have h1 := RowAt1.lt h
  have h2 := y.size
  rw [eq_iff_iff, iff_false]; omega
theorem RB.ne1 (h : RB t v w g) (y : Later w.heap.size w) : (y.val.heap.size + 1 = g) = False := by
  have h1 := RowAt1.lt h
  have h2 := y.size
  rw [eq_iff_iff, iff_false]; omega
theorem ITab.rbset {tb n : Nat} {f : Nat → Int} (hT : ITab w tb n f) (hn : 0 < n) {x : Value} (h : RB t (.slice none 0 0) w g) : ITab (w.setCell ⟨g, 0, none⟩ x) tb n f := by
  refine hT.other (fun e => ?_) x
  subst e
  have h1 := hT.cell hn
  rw [RB.cell h] at h1
  cases h1
theorem ITab.allocI {tb n : Nat} {f : Nat → Int} (hT : ITab w tb n f) (o : Obj) : ITab (w.alloc o) tb n f := hT.keep ((Below.refl _ _).alloc (Nat.le_refl _) _)
theorem ITab.drewI {tb n : Nat} {f : Nat → Int} (hT : ITab w tb n f) : ITab w.drew tb n f := hT
theorem ITab.upI {tb n : Nat} {f : Nat → Int} (hT : ITab w tb n f) (y : Later w.heap.size w) : ITab y.val tb n f := hT.keep y.below
end

/-- two boxes, in which tables lie -/
def TwoBox (Y : World) (n1 n2 : Nat) (f1 f2 : Nat → Int) (x y : Value) (w : World) : Prop :=
  ∃ (g1 g2 t1 t2 c1 c2 : Nat) (v : Later Y.heap.size Y), x = .pointer (some ⟨g1, 0, none⟩) ∧ y = .pointer (some ⟨g2, 0, none⟩) ∧ w = v.val ∧ RB 35 (.slice (some ⟨t1, 0, none⟩) n1 c1) v.val g1 ∧ RB 35 (.slice (some ⟨t2, 0, none⟩) n2 c2) v.val g2 ∧ ITab v.val t1 n1 f1 ∧ ITab v.val t2 n2 f2
theorem TwoBox.mk {Y w : World} {n1 n2 t1 t2 c1 c2 g1 g2 : Nat} {f1 f2 : Nat → Int} (h : Bel Y w) (h1 : RB 35 (.slice (some ⟨t1, 0, none⟩) n1 c1) w g1) (h2 : RB 35 (.slice (some ⟨t2, 0, none⟩) n2 c2) w g2) (i1 : ITab w t1 n1 f1) (i2 : ITab w t2 n2 f2) : TwoBox Y n1 n2 f1 f2 (.pointer (some ⟨g1, 0, none⟩)) (.pointer (some ⟨g2, 0, none⟩)) w := by
  obtain ⟨v, rfl⟩ := h.later
  exact ⟨g1, g2, t1, t2, c1, c2, v, rfl, rfl, rfl, h1, h2, i1, i2⟩

end Go.Proofs.Ytffnpokceomncaa

namespace Go.Proofs.Ytffnpokceomncaa
open Go.RowKit
set_option linter.unusedVariables false

set_option maxRecDepth 100000 in
set_option maxHeartbeats 16000000 in
theorem c_greatest {B : Nat} {W : World} (u : Later B W) (m : Nat) (hm : m ≤ 8) (k : FuncId) (caps : Array Value) (p : Nat → Bool) (hpl : Plain k) (hk : Tells B W k caps m p) :
    Calls Try.prog 50 #[.int .i64 m, .func (.func k) #[] caps] u.val (RetP B W (MatO B m (ints (biggest (those m p))))) := by
  have hb := bit_le m hm
  have hB := u.size
  have bc := bit_cast m
  have wb := IntWalk.i64_in (bit m : Int) (by omega)
  have k1 : (u.val.alloc (.cells #[.int .i64 0, .slice none 0 0] 45)).heap.size = u.val.heap.size + 1 := by simp
  have X4 : Hid (RowL ((u.val.alloc (.cells #[.int .i64 0, .slice none 0 0] 45)).alloc (.cells #[.int .i64 m, .slice none 0 0] 45)) u.val.heap.size 45 [.int .i64 0, .slice none 0 0]) := Lib.hid ((RowL.new u.val 45 _).keep ((Below.refl _ _).alloc (Nat.le_refl _) _))
  have X5 : Hid (RowL ((u.val.alloc (.cells #[.int .i64 0, .slice none 0 0] 45)).alloc (.cells #[.int .i64 m, .slice none 0 0] 45)) (u.val.heap.size + 1) 45 [.int .i64 m, .slice none 0 0]) := Lib.hid (by
    have h := RowL.new (u.val.alloc (.cells #[.int .i64 0, .slice none 0 0] 45)) 45 [.int .i64 m, .slice none 0 0]
    rwa [k1] at h)
  have hYs : Hid (((u.val.alloc (.cells #[.int .i64 0, .slice none 0 0] 45)).alloc (.cells #[.int .i64 m, .slice none 0 0] 45)).heap.size = u.val.heap.size + 2) := Lib.hid (by simp)
  have HVY : Hid (∀ v : Later ((u.val.alloc (.cells #[.int .i64 0, .slice none 0 0] 45)).alloc (.cells #[.int .i64 m, .slice none 0 0] 45)).heap.size ((u.val.alloc (.cells #[.int .i64 0, .slice none 0 0] 45)).alloc (.cells #[.int .i64 m, .slice none 0 0] 45)), ∃ w : Later B W, w.val = v.val) := Lib.hid (fun v => ⟨((u.alloc _).alloc _).up v, rfl⟩)
  have HLY : Hid (∃ w : Later B W, w.val = ((u.val.alloc (.cells #[.int .i64 0, .slice none 0 0] 45)).alloc (.cells #[.int .i64 m, .slice none 0 0] 45))) := Lib.hid ⟨(u.alloc _).alloc _, rfl⟩
  have HS : Hid (gst p (bit m) = gst p (bit m)) := Lib.hid rfl
  have HG := Lib.hid (gst_big p m)
  have hp1 : ∀ (args : Array Value) (w : World), (callFunc k args).run Try.prog w = .ok (.enter k args) w := hpl
  have HK := Lib.hid hk
  clear hk k1 hpl
  go_enter Try.func50, Try.ntmps50
  go_upto_region 2 with fail
  generalize ((u.val.alloc (.cells #[.int .i64 0, .slice none 0 0] 45)).alloc (.cells #[.int .i64 m, .slice none 0 0] 45)) = Y at *
  generalize u.val.heap.size = gu at *
  obtain ⟨z, hz⟩ := HLY.out
  rw [← hz] at X4 X5 hYs ⊢
  clear hz HVY HLY HS
  have hYss := hYs.out
  have HX4 : Hid (RowL z.val gu 45 [.int .i64 0, .slice none 0 0]) := X4
  have HX5 : Hid (RowL z.val (gu + 1) 45 [.int .i64 m, .slice none 0 0]) := X5
  clear X4 X5 hYs
  go_wp2
  go_loopw [6, 12] (fun mo iv wr => ∃ (s : Nat) (ad : Option Addr) (cp : Nat) (v : Later B W), s ≤ bit m ∧ iv = .int .i64 s ∧ mo = .int .i64 (gst p s).1 ∧ wr = v.val ∧ Hid (RowL v.val (gu + 1) 45 [.int .i64 m, .slice ad (ints (gst p s).2).length cp]) ∧ Hid (Own (gu + 2) v.val ad cp (ints (gst p s).2)) ∧ Hid (RowL v.val gu 45 [.int .i64 0, .slice none 0 0])) (fun _ i _ => bit m - (intOf i).toNat)
  case atStart => exact ⟨0, none, 0, z, by omega, rfl, rfl, rfl, HX5, Lib.hid (Own.nil _ _), HX4⟩
  case round =>
    clear z HX4 HX5 hYss
    obtain ⟨s, ad, cp, v, hs, rfl, rfl, rfl, H5, HO, H4⟩ := hrel
    have hgv : gu + 1 < v.val.heap.size := H5.out.lt
    obtain ⟨hlo, hhi⟩ := gst_lo p s
    have hln := gst_len p s
    by_cases hlt : s < bit m
    · have hm1 : Hid (s + 1 ≤ bit m) := Lib.hid hlt
      have KS : Hid (∀ w : Later v.val.heap.size v.val, Calls Try.prog 55 #[.int .i64 s] w.val (Ret v.val.heap.size v.val (.int .i64 (sz s)))) := Lib.hid (fun w => c_kSize w s (by omega))
      have KP := Lib.hid (fun w : Later v.val.heap.size v.val => HK.out v w s hlt)
      have hz8 := sz_le s
      have HE : Hid (gst p (s + 1) = if p s = true ∧ ¬ (sz s : Int) < (gst p s).1 then (if (gst p s).1 < (sz s : Int) then ((sz s : Int), [s]) else ((gst p s).1, (gst p s).2 ++ [s])) else gst p s) := Lib.hid rfl
      have hil : Hid ((ints (gst p s).2).length ≤ 256) := Lib.hid (by rw [ints_len]; omega)
      rcases ilt (sz s : Int) (gst p s).1 with ⟨h1, d1⟩ | ⟨h1, d1⟩
      · have HN : Hid (gst p (s + 1) = gst p s) := Lib.hid (by rw [HE.out, if_neg (fun c => c.2 h1)])
        have H1 := Lib.hid h1
        clear HE h1 KP
        obtain ⟨mo, hmo⟩ : ∃ mo, mo = (gst p s).1 := ⟨_, rfl⟩
        rw [← hmo] at d1 ⊢
        have HMo := Lib.hid hmo
        clear hmo hlo hhi
        go_wp2_with (first | (go_at_call 55; (with_reducible refine (KS.out (Later.self v.val)).mono ?_); rintro e _ ⟨rfl, v1, rfl⟩) | (go_at_call 55; refine (KS.out (Later.self v.val)).mono ?_; rintro e _ ⟨rfl, v1, rfl⟩) | fail)
        go_roundw
        case rel => exact ⟨s+1, ad, cp, v.up v1, hm1.out, by go_num, by rw [HN.out, HMo.out], rfl, Lib.hid (by rw [HN.out]; exact H5.out.keep v1.below), Lib.hid (by rw [HN.out]; exact HO.out.keep v1.below), Lib.hid (H4.out.keep v1.below)⟩
        case measure => have := hm1.out; simp [intOf]; omega
      · rcases btf (p s) with g1 | g1
        · rw [g1] at KP
          have h1' : ¬ (sz s : Int) < (gst p s).1 := by omega
          have F3 : ∀ w : Later v.val.heap.size v.val, w.val.cell? ⟨gu + 1, 1, none⟩ = some (.slice ad (ints (gst p s).2).length cp) := fun w => (H5.out.keep w.below).cell rfl
          have Z3 : ∀ w : Later v.val.heap.size v.val, w.val.frozen? ⟨gu + 1, 1, none⟩ = false := fun w => (H5.out.keep w.below).fz 1
          rcases ilt (gst p s).1 (sz s : Int) with ⟨h2, d2⟩ | ⟨h2, d2⟩
          · have HN : Hid (gst p (s + 1) = ((sz s : Int), [s])) := Lib.hid (by rw [HE.out, if_pos ⟨g1, h1'⟩, if_pos h2])
            have H1 := Lib.hid (And.intro h1 (And.intro h2 (And.intro h1' g1)))
            clear HE h1 h2 h1' g1
            have F4 : ∀ (w3 : Later v.val.heap.size v.val) (x : Value), (w3.val.setCell ⟨gu + 1, 1, none⟩ x).cell? ⟨gu + 1, 1, none⟩ = some x := fun w3 x => ((H5.out.keep w3.below).set 1 x).cell rfl
            have F5 : ∀ (w3 : Later v.val.heap.size v.val) (x : Value) (w : Later (gu + 2) (w3.val.setCell ⟨gu + 1, 1, none⟩ x)), w.val.cell? ⟨gu + 1, 1, none⟩ = some x := fun w3 x w => (((H5.out.keep w3.below).set 1 x).keep_at w.below (by omega)).cell rfl
            have Z5 : ∀ (w3 : Later v.val.heap.size v.val) (x : Value) (w : Later (gu + 2) (w3.val.setCell ⟨gu + 1, 1, none⟩ x)), w.val.frozen? ⟨gu + 1, 1, none⟩ = false := fun w3 x w => (((H5.out.keep w3.below).set 1 x).keep_at w.below (by omega)).fz 1
            obtain ⟨mo, hmo⟩ : ∃ mo, mo = (gst p s).1 := ⟨_, rfl⟩
            rw [← hmo] at d1 d2 ⊢
            clear hmo hlo hhi
            obtain ⟨y, hy⟩ : ∃ y : Later v.val.heap.size v.val, y.val = v.val := ⟨Later.self _, rfl⟩
            rw [← hy]
            clear hy
            have HSz : Hid (∀ w3 : Later v.val.heap.size v.val, Value.slice (some ⟨w3.val.heap.size, 0, none⟩) 1 1 = .slice (some ⟨(w3.val.setCell ⟨gu + 1, 1, none⟩ (.slice none 0 0)).heap.size, 0, none⟩) 1 1) := Lib.hid (fun w3 => by simp)
            have hsz2 : ∀ w : Later v.val.heap.size v.val, gu + 2 ≤ (w.val.setCell ⟨gu + 1, 1, none⟩ (.slice none 0 0)).heap.size := fun w => by have := w.size; simp; omega
            go_wp2_with (first | (go_at_call 55; (with_reducible refine (KS.out _).mono ?_); rintro e _ ⟨rfl, v1, rfl⟩) | ((with_reducible refine (KP.out _).mono ?_); rintro e _ ⟨rfl, v1, rfl⟩) | (at_builtin; refine wpList_push (B := gu + 2) (W := v1.val.setCell ⟨gu + 1, 1, none⟩ (.slice none 0 0)) (w := v1.val.setCell ⟨gu + 1, 1, none⟩ (.slice none 0 0)) (Below.refl _ _) (hsz2 v1) rfl _ _ rfl ([] : List Int) none 0 (s : Int) rfl (Own.nil _ _) (Eq.trans (by rfl) (HSz.out v1)) (by simp) ?_; intro u2 ad2 cp2 hown) | fail)
            go_roundw
            case rel =>
              have hb0 : B ≤ gu + 2 := by omega
              have hu2 := u2.size
              obtain ⟨x1, hx1⟩ : ∃ x : Later B W, x.val = u2.val := ⟨((v.up v1).set ⟨gu + 1, 1, none⟩ (by show B ≤ gu + 1; omega) (.slice none 0 0)).to u2.val (u2.below.mono hb0), rfl⟩
              obtain ⟨x2, hx2⟩ := later_set ⟨x1, hx1⟩ (g := gu + 1) (i := 1) (by omega) (.slice ad2 ([] ++ [(s : Int)]).length cp2)
              refine ⟨s+1, ad2, cp2, x2, hm1.out, by go_num, by rw [HN.out], by rw [hx2]; rfl, Lib.hid ?_, Lib.hid ?_, Lib.hid ?_⟩
              · rw [HN.out, hx2]
                exact ((((H5.out.keep v1.below).set 1 _).keep_at u2.below (by omega)).set 1 _)
              · rw [HN.out, hx2]
                exact hown.set (by omega) _
              · rw [hx2]
                exact ((((H4.out.keep v1.below).apart (by omega) 1 _).keep_at u2.below (by omega)).apart (by omega) 1 _)
            case measure => have := hm1.out; simp [intOf]; omega
          · have HN : Hid (gst p (s + 1) = ((gst p s).1, (gst p s).2 ++ [s])) := Lib.hid (by rw [HE.out, if_pos ⟨g1, h1'⟩, if_neg (by omega)])
            have H1 := Lib.hid (And.intro h1 (And.intro h2 (And.intro h1' g1)))
            clear HE h1 h2 h1' g1
            have F5 : ∀ (w3 : Later v.val.heap.size v.val) (w : Later (gu + 2) w3.val), w.val.cell? ⟨gu + 1, 1, none⟩ = some (.slice ad (ints (gst p s).2).length cp) := fun w3 w => ((H5.out.keep w3.below).keep_at w.below (by omega)).cell rfl
            have Z5 : ∀ (w3 : Later v.val.heap.size v.val) (w : Later (gu + 2) w3.val), w.val.frozen? ⟨gu + 1, 1, none⟩ = false := fun w3 w => ((H5.out.keep w3.below).keep_at w.below (by omega)).fz 1
            have hLen : Hid ((ints ((gst p s).2 ++ [s])).length = (ints (gst p s).2).length + 1) := Lib.hid (by rw [ints_snoc, List.length_append]; rfl)
            have hSn : Hid (ints ((gst p s).2 ++ [s]) = ints (gst p s).2 ++ [(s : Int)]) := Lib.hid (ints_snoc _ _)
            obtain ⟨X, hX⟩ : ∃ X, X = ints (gst p s).2 := ⟨_, rfl⟩
            rw [← hX] at H5 HO F3 F5 hil hSn hLen
            clear hX hln
            obtain ⟨mo, hmo⟩ : ∃ mo, mo = (gst p s).1 := ⟨_, rfl⟩
            rw [← hmo] at d1 d2 ⊢
            have HMo := Lib.hid hmo
            clear hmo hlo hhi
            obtain ⟨y, hy⟩ : ∃ y : Later v.val.heap.size v.val, y.val = v.val := ⟨Later.self _, rfl⟩
            rw [← hy]
            clear hy
            have hsz2 : ∀ w : Later v.val.heap.size v.val, gu + 2 ≤ w.val.heap.size := fun w => by have := w.size; omega
            go_wp2_with (first | (go_at_call 55; (with_reducible refine (KS.out _).mono ?_); rintro e _ ⟨rfl, v1, rfl⟩) | ((with_reducible refine (KP.out _).mono ?_); rintro e _ ⟨rfl, v1, rfl⟩) | (at_builtin; refine wpList_push (B := gu + 2) (W := v1.val) (w := v1.val) (Below.refl _ _) (hsz2 v1) rfl _ _ rfl X ad cp (s : Int) rfl (HO.out.keep v1.below) rfl (by have := hil.out; omega) ?_; intro u2 ad2 cp2 hown) | fail)
            go_roundw
            case rel =>
              have hb0 : B ≤ gu + 2 := by omega
              have hu2 := u2.size
              obtain ⟨x1, hx1⟩ : ∃ x : Later B W, x.val = u2.val := ⟨(v.up v1).to u2.val (u2.below.mono hb0), rfl⟩
              obtain ⟨x2, hx2⟩ := later_set ⟨x1, hx1⟩ (g := gu + 1) (i := 1) (by omega) (.slice ad2 (X ++ [(s : Int)]).length cp2)
              refine ⟨s+1, ad2, cp2, x2, hm1.out, by go_num, by rw [HN.out, HMo.out], by rw [hx2]; simp, Lib.hid ?_, Lib.hid ?_, Lib.hid ?_⟩
              · rw [HN.out, hx2]
                show RowL _ _ _ [_, .slice ad2 (ints ((gst p s).2 ++ [s])).length cp2]
                rw [hSn.out]
                exact (((H5.out.keep v1.below).keep_at u2.below (by omega)).set 1 _)
              · rw [HN.out, hx2]
                show Own _ _ _ _ (ints ((gst p s).2 ++ [s]))
                rw [hSn.out]
                exact hown.set (by omega) _
              · rw [hx2]
                exact (((H4.out.keep v1.below).keep_at u2.below (by omega)).apart (by omega) 1 _)
            case measure => have := hm1.out; simp [intOf]; omega
        · rw [g1] at KP
          have HN : Hid (gst p (s + 1) = gst p s) := Lib.hid (by rw [HE.out, if_neg (fun c => by rw [g1] at c; cases c.1)])
          have H1 := Lib.hid (And.intro h1 g1)
          clear HE h1 g1
          obtain ⟨mo, hmo⟩ : ∃ mo, mo = (gst p s).1 := ⟨_, rfl⟩
          rw [← hmo] at d1 ⊢
          have HMo := Lib.hid hmo
          clear hmo hlo hhi
          obtain ⟨y, hy⟩ : ∃ y : Later v.val.heap.size v.val, y.val = v.val := ⟨Later.self _, rfl⟩
          rw [← hy]
          clear hy
          go_wp2_with (first | (go_at_call 55; (with_reducible refine (KS.out _).mono ?_); rintro e _ ⟨rfl, v1, rfl⟩) | ((with_reducible refine (KP.out _).mono ?_); rintro e _ ⟨rfl, v1, rfl⟩) | fail)
          go_roundw
          case rel => exact ⟨s+1, ad, cp, v.up v1, hm1.out, by go_num, by rw [HN.out, HMo.out], rfl, Lib.hid (by rw [HN.out]; exact H5.out.keep v1.below), Lib.hid (by rw [HN.out]; exact HO.out.keep v1.below), Lib.hid (H4.out.keep v1.below)⟩
          case measure => have := hm1.out; simp [intOf]; omega
    · have hse : s = bit m := by omega
      subst hse
      rw [HG.out] at H5 HO
      generalize biggest (those m p) = A at *
      clear HK HG hlo hhi hln hlt hs
      have F50 : v.val.cell? ⟨gu + 1, 0, none⟩ = some (.int .i64 m) := H5.out.cell rfl
      have F51 : v.val.cell? ⟨gu + 1, 1, none⟩ = some (.slice ad (ints A).length cp) := H5.out.cell rfl
      have F40 : v.val.cell? ⟨gu, 0, none⟩ = some (.int .i64 0) := H4.out.cell rfl
      have Z40 : v.val.frozen? ⟨gu, 0, none⟩ = false := H4.out.fz 0
      have F41 : ∀ x : Value, (v.val.setCell ⟨gu, 0, none⟩ x).cell? ⟨gu, 1, none⟩ = some (.slice none 0 0) := fun x => (H4.out.set 0 x).cell rfl
      have Z41 : ∀ x : Value, (v.val.setCell ⟨gu, 0, none⟩ x).frozen? ⟨gu, 1, none⟩ = false := fun x => (H4.out.set 0 x).fz 1
      go_wp2
      refine bodyPost_ret (results_cell_row rfl _ _ gu 45 #[.int .i64 (m : Nat), .slice ad (ints A).length cp] (0, 0) _ rfl ((H4.out.set 0 _).set 1 _) Try.underlying45 rfl (by kernel_rfl)) rfl ?_
      obtain ⟨z1, hz1⟩ := later_set ⟨v, rfl⟩ (g := gu) (i := 0) hB (.int .i64 (m : Nat))
      obtain ⟨z2, hz2⟩ := later_set ⟨z1, hz1⟩ (g := gu) (i := 1) hB (.slice ad (ints A).length cp)
      refine RetP.of ⟨z2, hz2⟩ ?_
      exact ⟨_, _, rfl, ((HO.out.set (by omega) _).set (by omega) _).mono (by omega)⟩

end Go.Proofs.Ytffnpokceomncaa
