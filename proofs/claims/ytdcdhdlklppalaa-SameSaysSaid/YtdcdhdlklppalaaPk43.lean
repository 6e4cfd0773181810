
/-
  rotaref.Orders.
-/
import Derived.Test.YtdcdhdlklppalaaPk42
import Derived.Test.YtdcdhdlklppalaaPk41
import Derived.Deep.CutRange
import Derived.OwnWalk
namespace Go.Proofs.Ytdcdhdlklppalaa
open Go.RowKit
set_option linter.unusedVariables false

theorem Mtx.upI {B : Nat} {w : World} {ad : Option Addr} {gc N C : Nat} {hd : Nat → Option Addr} {r cp : Nat → Nat} {P : Nat → Nat → Int} (h : Mtx B w ad gc N C hd r cp P) (y : Later w.heap.size w) : Mtx B y.val ad gc N C hd r cp P := h.keep y.below
theorem Mtx.allocI {B : Nat} {w : World} {ad : Option Addr} {gc N C : Nat} {hd : Nat → Option Addr} {r cp : Nat → Nat} {P : Nat → Nat → Int} (h : Mtx B w ad gc N C hd r cp P) (o : Obj) : Mtx B (w.alloc o) ad gc N C hd r cp P := h.keep ((Below.refl _ _).alloc (Nat.le_refl _) _)
theorem Mtx.drewI {B : Nat} {w : World} {ad : Option Addr} {gc N C : Nat} {hd : Nat → Option Addr} {r cp : Nat → Nat} {P : Nat → Nat → Int} (h : Mtx B w ad gc N C hd r cp P) : Mtx B w.drew ad gc N C hd r cp P := h.keep (Below.refl _ _).drew
theorem Mtx.rbset {B : Nat} {w : World} {ad : Option Addr} {gc N : Nat} {hd : Nat → Option Addr} {r cp : Nat → Nat} {P : Nat → Nat → Int} (h : Mtx B w ad gc N 10 hd r cp P) {g : Nat} {x : Value} (hb : RB 63 (.slice none 0 0) w g) : Mtx B (w.setCell ⟨g, 0, none⟩ x) ad gc N 10 hd r cp P := by
  have hb' : w.heap[g]? = _ := hb
  refine ⟨ownsRow_other h.top (fun e => ?_) x, h.hdr, fun hC i hi => (h.row hC i hi).far2 (fun e => ?_) x, h.ne, h.inj, h.nil⟩
  · rcases h.top.2 with ⟨e2, _⟩ | ⟨g', c, cur, e2, _, hh, _⟩
    · rw [e2] at e; cases e
    · rw [e2] at e
      have e3 : g' = g := by simpa [Value.ownBlock] using e
      subst e3
      rw [hb'] at hh
      simp at hh
  · rcases (h.row hC i hi).2 with ⟨e2, _⟩ | ⟨g', c, cur, e2, _, hh, _⟩
    · cases e2
    · simp only [Value.slice.injEq, Option.some.injEq, Addr.mk.injEq, and_true] at e2
      have e3 : r i = g' := e2.1
      rw [← e3, e, hb'] at hh
      simp at hh
/-- two boxes, in which rows of rows lie; all of it new -/
def TwoBoxM (Y : World) (n1 n2 : Nat) (H1 H2 : Nat → Nat → Int) (x y : Value) (w : World) : Prop :=
  ∃ (g1 g2 gc1 gc2 : Nat) (ax az : Option Addr) (hd1 hd2 : Nat → Option Addr) (r1 r2 cp1 cp2 : Nat → Nat) (v : Later Y.heap.size Y), x = .pointer (some ⟨g1, 0, none⟩) ∧ y = .pointer (some ⟨g2, 0, none⟩) ∧ w = v.val ∧ RB 63 (.slice ax n1 gc1) v.val g1 ∧ RB 63 (.slice az n2 gc2) v.val g2 ∧ Mtx Y.heap.size v.val ax gc1 n1 10 hd1 r1 cp1 H1 ∧ Mtx Y.heap.size v.val az gc2 n2 10 hd2 r2 cp2 H2 ∧ Y.heap.size ≤ g1 ∧ Y.heap.size ≤ g2
theorem TwoBoxM.mk {Y w : World} {n1 n2 g1 g2 gc1 gc2 : Nat} {ax az : Option Addr} {hd1 hd2 : Nat → Option Addr} {r1 r2 cp1 cp2 : Nat → Nat} {H1 H2 : Nat → Nat → Int} (k3 : Y.heap.size ≤ g1) (k4 : Y.heap.size ≤ g2) (h : Bel Y w) (h1 : RB 63 (.slice ax n1 gc1) w g1) (h2 : RB 63 (.slice az n2 gc2) w g2) (i1 : Mtx Y.heap.size w ax gc1 n1 10 hd1 r1 cp1 H1) (i2 : Mtx Y.heap.size w az gc2 n2 10 hd2 r2 cp2 H2) : TwoBoxM Y n1 n2 H1 H2 (.pointer (some ⟨g1, 0, none⟩)) (.pointer (some ⟨g2, 0, none⟩)) w := by
  obtain ⟨v, rfl⟩ := h.later
  exact ⟨g1, g2, gc1, gc2, ax, az, hd1, hd2, r1, r2, cp1, cp2, v, rfl, rfl, rfl, h1, h2, i1, i2, k3, k4⟩
def madeO (w : World) (ba bs bd bb bx bz : Nat) : World := (w.alloc (.cells #[.slice none 0 0] 22)).alloc (.cells #[.func (.func 48) #[] #[.pointer (some ⟨w.heap.size, 0, none⟩), .pointer (some ⟨ba, 0, none⟩), .pointer (some ⟨bs, 0, none⟩), .pointer (some ⟨bd, 0, none⟩), .pointer (some ⟨bb, 0, none⟩), .pointer (some ⟨bx, 0, none⟩), .pointer (some ⟨bz, 0, none⟩), .pointer (some ⟨w.heap.size + 1, 0, none⟩)]] 65)
theorem madeO_size (w : World) (ba bs bd bb bx bz : Nat) : (madeO w ba bs bd bb bx bz).heap.size = w.heap.size + 2 := by simp [madeO]
theorem madeO_below (w : World) (ba bs bd bb bx bz : Nat) : Below w.heap.size w (madeO w ba bs bd bb bx bz) := by
  unfold madeO
  refine Below.alloc (Below.alloc (Below.refl _ _) ?_ _) ?_ _ <;> simp
theorem madeO_cells (w : World) (ba bs bd bb bx bz : Nat) : RowAt1 (madeO w ba bs bd bb bx bz) w.heap.size 22 (.slice none 0 0) ∧ RowAt1 (madeO w ba bs bd bb bx bz) (w.heap.size + 1) 65 (.func (.func 48) #[] #[.pointer (some ⟨w.heap.size, 0, none⟩), .pointer (some ⟨ba, 0, none⟩), .pointer (some ⟨bs, 0, none⟩), .pointer (some ⟨bd, 0, none⟩), .pointer (some ⟨bb, 0, none⟩), .pointer (some ⟨bx, 0, none⟩), .pointer (some ⟨bz, 0, none⟩), .pointer (some ⟨w.heap.size + 1, 0, none⟩)]) := by
  constructor
  · exact row1_under (heap_alloc_new w _) _
  · have h := heap_alloc_new (w.alloc (.cells #[.slice none 0 0] 22)) (.cells #[.func (.func 48) #[] #[.pointer (some ⟨w.heap.size, 0, none⟩), .pointer (some ⟨ba, 0, none⟩), .pointer (some ⟨bs, 0, none⟩), .pointer (some ⟨bd, 0, none⟩), .pointer (some ⟨bb, 0, none⟩), .pointer (some ⟨bx, 0, none⟩), .pointer (some ⟨bz, 0, none⟩), .pointer (some ⟨w.heap.size + 1, 0, none⟩)]] 65)
    rw [show (w.alloc (.cells #[.slice none 0 0] 22)).heap.size = w.heap.size + 1 by simp] at h
    exact h
theorem ints_of {w : World} {r n : Nat} {A : Nat → Int} (hr : r < w.heap.size) (h : ∀ t, t < n → w.cell? ⟨r, t, none⟩ = some (.int .i64 (A t))) : IntsAt w.heap.size w (some ⟨r, 0, none⟩) (tabL n A) := fun _ => ⟨r, 0, rfl, hr, fun k hk => by
  rw [tabL_len] at hk
  rw [Nat.zero_add, h k hk, tabL_getD hk]⟩
/-- what rotaref.Orders tells -/
def ordF (on : Bool) (n1 n2 : Nat) (L1 L2 : List Nat) : List (List Nat) := if n1 = n2 ∧ L1.length = L2.length then cutF on (srch n1 (okH n1 L1 L2) (finB L1 L2) n1 []) else []
/-- how often a set stands among the first k -/
def cntK (L : List Nat) (s k : Nat) : Int := isum (fun j => if L.getD j 0 = s then 1 else 0) k
theorem cntK_bd (L : List Nat) (s k : Nat) : 0 ≤ cntK L s k ∧ cntK L s k ≤ k := by
  induction k with
  | zero => exact ⟨Int.le_refl _, Int.le_refl _⟩
  | succ k ih =>
    have e : cntK L s (k + 1) = cntK L s k + (if L.getD k 0 = s then 1 else 0) := rfl
    rw [e]
    split <;> omega
theorem cntK_zero (L : List Nat) (s : Nat) : cntK L s L.length = 0 ↔ s ∉ L := by
  constructor
  · intro h hm
    obtain ⟨j, hj, e⟩ := mem_getDN.1 hm
    have h1 := isum_eq_all (f := fun _ => (0 : Int)) (g := fun j => if L.getD j 0 = s then (1 : Int) else 0) (n := L.length) (fun i _ => by split <;> omega) (by rw [isum_zero (f := fun _ => (0 : Int)) (fun _ _ => rfl)]; exact Int.le_of_eq h) j hj
    change (0 : Int) = (if L.getD j 0 = s then 1 else 0) at h1
    rw [if_pos e] at h1
    cases h1
  · intro h
    exact isum_zero (fun j hj => if_neg (fun e => h (mem_getDN.2 ⟨j, hj, e⟩)))

set_option maxRecDepth 100000 in
set_option maxHeartbeats 16000000 in
theorem c_orders {B0 : Nat} {W0 : World} (u : Later B0 W0) (n1 n2 : Nat) (hn1 : n1 ≤ 8) (hn2 : n2 ≤ 8) (L1 L2 : List Nat) (a b : Option Addr) (cap capb : Nat) (h1 : IntsAt B0 W0 a (ints L1)) (h2 : IntsAt B0 W0 b (ints L2)) (hlen1 : L1.length ≤ 256) (hlen2 : L2.length ≤ 256) (hne1 : L1 ≠ []) (hne2 : L2 ≠ []) (hlt1 : ∀ x, x ∈ L1 → x < bit n1) (hlt2 : ∀ x, x ∈ L2 → x < bit n2)
    (D : Nat → Prop) (hD : ∀ k, D k → k < u.val.heap.size) (hDB : ∀ k, D k → B0 ≤ k) (on : Bool) (kf : FuncId) (caps : Array Value) (I : Nat → Option Nat → List (List Nat) → World → Prop)
    (HDo : ∀ (bp : Nat) (W : World), u.val.heap.size ≤ bp → bp < W.heap.size → Below u.val.heap.size u.val W → DoOn W.heap.size bp W D n1 on kf caps (I bp))
    (HI0 : ∀ (bp : Nat) (w : World), u.val.heap.size ≤ bp → Below u.val.heap.size u.val w → I bp none [] w) :
    Calls Try.prog 24 #[.agg #[.int .i64 n1, .slice a L1.length cap], .agg #[.int .i64 n2, .slice b L2.length capb], .func (.func kf) #[] caps] u.val (EachPost u.val D I (ordF on n1 n2 L1 L2)) := by
  have hbn1 := bit_le n1 hn1
  have hbn2 := bit_le n2 hn2
  have huB := u.size
  have e1 : (u.val.alloc (.cells #[.int .i64 n1, .slice a L1.length cap] 24)).heap.size = u.val.heap.size + 1 := by simp
  have e2 : ((u.val.alloc (.cells #[.int .i64 n1, .slice a L1.length cap] 24)).alloc (.cells #[.int .i64 n2, .slice b L2.length capb] 24)).heap.size = u.val.heap.size + 2 := by simp
  have X1 : Hid (RowL (((u.val.alloc (.cells #[.int .i64 n1, .slice a L1.length cap] 24)).alloc (.cells #[.int .i64 n2, .slice b L2.length capb] 24)).alloc (.cells #[.func (.func kf) #[] caps] 51)) u.val.heap.size 24 [.int .i64 n1, .slice a L1.length cap]) := Lib.hid (((RowL.new u.val 24 _).keep ((Below.refl _ _).alloc (Nat.le_refl _) _)).keep ((Below.refl _ _).alloc (Nat.le_refl _) _))
  have X2 : Hid (RowL (((u.val.alloc (.cells #[.int .i64 n1, .slice a L1.length cap] 24)).alloc (.cells #[.int .i64 n2, .slice b L2.length capb] 24)).alloc (.cells #[.func (.func kf) #[] caps] 51)) (u.val.heap.size + 1) 24 [.int .i64 n2, .slice b L2.length capb]) := Lib.hid (by
    have h := (RowL.new (u.val.alloc (.cells #[.int .i64 n1, .slice a L1.length cap] 24)) 24 [.int .i64 n2, .slice b L2.length capb]).keep ((Below.refl _ _).alloc (Nat.le_refl _) (.cells #[.func (.func kf) #[] caps] 51))
    rwa [e1] at h)
  have X3 : Hid (RowAt1 (((u.val.alloc (.cells #[.int .i64 n1, .slice a L1.length cap] 24)).alloc (.cells #[.int .i64 n2, .slice b L2.length capb] 24)).alloc (.cells #[.func (.func kf) #[] caps] 51)) (u.val.heap.size + 2) 51 (.func (.func kf) #[] caps)) := Lib.hid (by
    have h := RowAt1.new ((u.val.alloc (.cells #[.int .i64 n1, .slice a L1.length cap] 24)).alloc (.cells #[.int .i64 n2, .slice b L2.length capb] 24)) 51 (.func (.func kf) #[] caps)
    rwa [e2] at h)
  have hY1 : Hid ((((u.val.alloc (.cells #[.int .i64 n1, .slice a L1.length cap] 24)).alloc (.cells #[.int .i64 n2, .slice b L2.length capb] 24)).alloc (.cells #[.func (.func kf) #[] caps] 51)).heap.size = u.val.heap.size + 3) := Lib.hid (by simp)
  have HBY : Hid (Below u.val.heap.size u.val (((u.val.alloc (.cells #[.int .i64 n1, .slice a L1.length cap] 24)).alloc (.cells #[.int .i64 n2, .slice b L2.length capb] 24)).alloc (.cells #[.func (.func kf) #[] caps] 51))) := Lib.hid ((((Below.refl _ _).alloc (Nat.le_refl _) _).alloc (by simp) _).alloc (by simp; omega) _)
  have HLi1 : Hid (IntsAt B0 (((u.val.alloc (.cells #[.int .i64 n1, .slice a L1.length cap] 24)).alloc (.cells #[.int .i64 n2, .slice b L2.length capb] 24)).alloc (.cells #[.func (.func kf) #[] caps] 51)) a (ints L1)) := Lib.hid (h1.later (((u.alloc _).alloc _).alloc _).below)
  have HLi2 : Hid (IntsAt B0 (((u.val.alloc (.cells #[.int .i64 n1, .slice a L1.length cap] 24)).alloc (.cells #[.int .i64 n2, .slice b L2.length capb] 24)).alloc (.cells #[.func (.func kf) #[] caps] 51)) b (ints L2)) := Lib.hid (h2.later (((u.alloc _).alloc _).alloc _).below)
  have HR1 : Hid (∀ w, Bel (((u.val.alloc (.cells #[.int .i64 n1, .slice a L1.length cap] 24)).alloc (.cells #[.int .i64 n2, .slice b L2.length capb] 24)).alloc (.cells #[.func (.func kf) #[] caps] 51)) w → Calls Try.prog 47 #[.agg #[.int .i64 n1, .slice a L1.length cap]] w (RetP w.heap.size w (fun v w' => ∃ ad gc hd r cp, v = .slice ad n1 gc ∧ Mtx (((u.val.alloc (.cells #[.int .i64 n1, .slice a L1.length cap] 24)).alloc (.cells #[.int .i64 n2, .slice b L2.length capb] 24)).alloc (.cells #[.func (.func kf) #[] caps] 51)).heap.size w' ad gc n1 10 hd r cp (hab n1 L1)))) := Lib.hid (fun w hw => by
    have h3 := c_habits (Later.self w) n1 hn1 L1 hne1 (fun x hx => by have := hlt1 x hx; omega) (by omega) a cap ((h1.to (((u.alloc _).alloc _).alloc _)).to ⟨w, hw.1, hw.2⟩)
    rw [ints_len] at h3
    exact h3.mono (fun _ _ ⟨v, k1, ⟨ad, gc, hd, r, cp, k2, k3⟩, k4⟩ => ⟨v, k1, ⟨ad, gc, hd, r, cp, k2, k3.mono hw.2⟩, k4⟩))
  have HR2 : Hid (∀ w, Bel (((u.val.alloc (.cells #[.int .i64 n1, .slice a L1.length cap] 24)).alloc (.cells #[.int .i64 n2, .slice b L2.length capb] 24)).alloc (.cells #[.func (.func kf) #[] caps] 51)) w → Calls Try.prog 47 #[.agg #[.int .i64 n2, .slice b L2.length capb]] w (RetP w.heap.size w (fun v w' => ∃ ad gc hd r cp, v = .slice ad n2 gc ∧ Mtx (((u.val.alloc (.cells #[.int .i64 n1, .slice a L1.length cap] 24)).alloc (.cells #[.int .i64 n2, .slice b L2.length capb] 24)).alloc (.cells #[.func (.func kf) #[] caps] 51)).heap.size w' ad gc n2 10 hd r cp (hab n2 L2)))) := Lib.hid (fun w hw => by
    have h3 := c_habits (Later.self w) n2 hn2 L2 hne2 (fun x hx => by have := hlt2 x hx; omega) (by omega) b capb ((h2.to (((u.alloc _).alloc _).alloc _)).to ⟨w, hw.1, hw.2⟩)
    rw [ints_len] at h3
    exact h3.mono (fun _ _ ⟨v, k1, ⟨ad, gc, hd, r, cp, k2, k3⟩, k4⟩ => ⟨v, k1, ⟨ad, gc, hd, r, cp, k2, k3.mono hw.2⟩, k4⟩))
  have HDn := Lib.hid HDo
  have HIn := Lib.hid HI0
  have HDl := Lib.hid hD
  have HDb := Lib.hid hDB
  have HL1 := Lib.hid hlt1
  have HL2 := Lib.hid hlt2
  clear e1 e2 h1 h2 HDo HI0 hD hDB hne1 hne2 hlt1 hlt2
  go_enter Try.func24, Try.ntmps24
  go_upto_region 1 with fail
  generalize (((u.val.alloc (.cells #[.int .i64 n1, .slice a L1.length cap] 24)).alloc (.cells #[.int .i64 n2, .slice b L2.length capb] 24)).alloc (.cells #[.func (.func kf) #[] caps] 51)) = Y at *
  generalize hU : u.val = U at *
  have HU := Lib.hid hU
  clear hU
  generalize hgu : U.heap.size = gu at *
  have Hgu := Lib.hid hgu
  clear hgu
  have x0 : ∀ w : Later Y.heap.size Y, w.val.cell? ⟨gu, 0, none⟩ = some (.int .i64 n1) := fun w => (X1.out.keep w.below).cell rfl
  have x1 : ∀ w : Later Y.heap.size Y, w.val.cell? ⟨gu, 1, none⟩ = some (.slice a L1.length cap) := fun w => (X1.out.keep w.below).cell rfl
  have x2 : ∀ w : Later Y.heap.size Y, w.val.cell? ⟨gu + 1, 0, none⟩ = some (.int .i64 n2) := fun w => (X2.out.keep w.below).cell rfl
  have x3 : ∀ w : Later Y.heap.size Y, w.val.cell? ⟨gu + 1, 1, none⟩ = some (.slice b L2.length capb) := fun w => (X2.out.keep w.below).cell rfl
  obtain ⟨z, hz⟩ : ∃ z : Later Y.heap.size Y, z.val = Y := ⟨Later.self _, rfl⟩
  go_cut [6, 7] from 12 to 15 (fun x y w => TwoBoxM Y n1 n2 (hab n1 L1) (hab n2 L2) x y w)
  case first => as_aux_lemma =>
    rw [← hz]
    clear hz
    have hbz : Bel Y z.val := Bel.of z
    have hz0 := z.size
    have rF : ∀ (w : World) (g : Nat), RB 63 (Value.slice none 0 0) w g → w.cell? ⟨g, 0, none⟩ = some (Value.slice none 0 0) := fun w g h => h.cell
    have rG : ∀ (w : World) (g : Nat), RB 63 (Value.slice none 0 0) w g → w.frozen? ⟨g, 0, none⟩ = false := fun w g h => h.fz
    have rA : ∀ (w : World) (g : Nat) (o : Obj), RB 63 (Value.slice none 0 0) w g → RB 63 (Value.slice none 0 0) (w.alloc o) g := fun w g o h => h.alloc o
    have rN : ∀ w : World, RB 63 (Value.slice none 0 0) (w.alloc (.cells #[(Value.slice none 0 0)] 63)) w.heap.size := fun w => RB.new _ _ _
    have rN2 : ∀ (w : World) (o : Obj), RB 63 (Value.slice none 0 0) ((w.alloc o).alloc (.cells #[(Value.slice none 0 0)] 63)) (w.heap.size + 1) := fun w o => RB.new2 _ _ _ _
    have rD : ∀ (w : World) (g : Nat), RB 63 (Value.slice none 0 0) w g → RB 63 (Value.slice none 0 0) w.drew g := fun w g h => h.drew
    have rU : ∀ (w : World) (g : Nat) (y : Later w.heap.size w), RB 63 (Value.slice none 0 0) w g → RB 63 (Value.slice none 0 0) y.val g := fun w g y h => h.up y
    have rFA : ∀ (w : World) (g : Nat) (o : Obj), RB 63 (Value.slice none 0 0) w g → (w.alloc o).cell? ⟨g, 0, none⟩ = some (Value.slice none 0 0) := fun w g o h => (h.alloc o).cell
    have rGA : ∀ (w : World) (g : Nat) (o : Obj), RB 63 (Value.slice none 0 0) w g → (w.alloc o).frozen? ⟨g, 0, none⟩ = false := fun w g o h => (h.alloc o).fz
    have rFS : ∀ (w : World) (g g' : Nat) (x : Value), RB 63 (Value.slice none 0 0) w g → g' ≠ g → (w.setCell ⟨g', 0, none⟩ x).cell? ⟨g, 0, none⟩ = some (Value.slice none 0 0) := fun w g g' x h hn => (h.set hn x).cell
    have rGS : ∀ (w : World) (g g' : Nat) (x : Value), RB 63 (Value.slice none 0 0) w g → g' ≠ g → (w.setCell ⟨g', 0, none⟩ x).frozen? ⟨g, 0, none⟩ = false := fun w g g' x h hn => (h.set hn x).fz
    have rS : ∀ (w : World) (g g' : Nat) (x : Value), RB 63 (Value.slice none 0 0) w g → g' ≠ g → RB 63 (Value.slice none 0 0) (w.setCell ⟨g', 0, none⟩ x) g := fun w g g' x h hn => h.set hn x
    have rE : ∀ (w : World) (g : Nat) (y : Later w.heap.size w), RB 63 (Value.slice none 0 0) w g → (g = y.val.heap.size) = False := fun w g y h => h.ne y
    have rE' : ∀ (w : World) (g : Nat) (y : Later w.heap.size w), RB 63 (Value.slice none 0 0) w g → (y.val.heap.size = g) = False := fun w g y h => h.ne' y
    have sa : ∀ w, Bel Y w → w.cell? ⟨gu, 0, none⟩ = some (.int .i64 n1) ∧ w.cell? ⟨gu, 1, none⟩ = some (.slice a L1.length cap) ∧ w.cell? ⟨gu + 1, 0, none⟩ = some (.int .i64 n2) ∧ w.cell? ⟨gu + 1, 1, none⟩ = some (.slice b L2.length capb) := fun w h => by
      obtain ⟨v, rfl⟩ := h.later
      exact ⟨x0 v, x1 v, x2 v, x3 v⟩
    go_region_held3 (fun w' => w'.cell? ⟨gu, 0, none⟩ = some (.int .i64 n1) ∧ w'.cell? ⟨gu, 1, none⟩ = some (.slice a L1.length cap) ∧ w'.cell? ⟨gu + 1, 0, none⟩ = some (.int .i64 n2) ∧ w'.cell? ⟨gu + 1, 1, none⟩ = some (.slice b L2.length capb)) (first | (refine sa _ ?_; (repeat (first | (with_reducible exact hbz) | (with_reducible refine Bel.up ?_ _) | (with_reducible refine Bel.alloc ?_ _) | (with_reducible refine Bel.drew ?_) | (with_reducible refine Bel.set ?_ (by first | omega | (dsimp only; omega) | (simp; omega)) _))); done) | fail) (first | (go_at_call 47; (with_reducible refine (HR1.out _ ?_).mono ?_); (repeat (first | (with_reducible exact hbz) | (with_reducible refine Bel.up ?_ _) | (with_reducible refine Bel.alloc ?_ _) | (with_reducible refine Bel.drew ?_) | (with_reducible refine Bel.set ?_ (by first | omega | (dsimp only; omega) | (simp; omega)) _))); rintro e _ ⟨_, rfl, ⟨ax, gc1, hd1, r1, cp1, rfl, hT1⟩, v1, rfl⟩; have hz1 := Bel.sz (Y := Y) (w := v1.val) (by (repeat (first | (with_reducible exact hbz) | (with_reducible refine Bel.up ?_ _) | (with_reducible refine Bel.alloc ?_ _) | (with_reducible refine Bel.drew ?_) | (with_reducible refine Bel.set ?_ (by first | omega | (dsimp only; omega) | (simp; omega)) _)))); have s1 := v1.size; try simp at s1; (first | (with_reducible have b0 : RB 63 (Value.slice none 0 0) v1.val z.val.heap.size := RB.up (RB.drew (RB.new _ _ _)) v1) | (with_reducible have b0 : RB 63 (Value.slice none 0 0) v1.val z.val.heap.size := RB.up (RB.drew (RB.alloc (RB.new _ _ _) _)) v1) | (with_reducible have b0 : RB 63 (Value.slice none 0 0) v1.val z.val.heap.size := RB.up (RB.new _ _ _) v1) | (with_reducible have b0 : RB 63 (Value.slice none 0 0) v1.val z.val.heap.size := RB.up (RB.alloc (RB.new _ _ _) _) v1) | skip); (first | (with_reducible have b1 : RB 63 (Value.slice none 0 0) v1.val (z.val.heap.size + 1) := RB.up (RB.drew (RB.new2 _ _ _ _)) v1) | (with_reducible have b1 : RB 63 (Value.slice none 0 0) v1.val (z.val.heap.size + 1) := RB.up (RB.new2 _ _ _ _) v1) | skip); try have n0 : z.val.heap.size ≠ v1.val.heap.size := (by omega); try have n1 : v1.val.heap.size ≠ z.val.heap.size := (by omega)) | (go_at_call 47; (with_reducible refine (HR2.out _ ?_).mono ?_); (repeat (first | (with_reducible exact hbz) | (with_reducible refine Bel.up ?_ _) | (with_reducible refine Bel.alloc ?_ _) | (with_reducible refine Bel.drew ?_) | (with_reducible refine Bel.set ?_ (by first | omega | (dsimp only; omega) | (simp; omega)) _))); rintro e _ ⟨_, rfl, ⟨az, gc2, hd2, r2, cp2, rfl, hT2⟩, v2, rfl⟩; have hz2 := Bel.sz (Y := Y) (w := v2.val) (by (repeat (first | (with_reducible exact hbz) | (with_reducible refine Bel.up ?_ _) | (with_reducible refine Bel.alloc ?_ _) | (with_reducible refine Bel.drew ?_) | (with_reducible refine Bel.set ?_ (by first | omega | (dsimp only; omega) | (simp; omega)) _)))); have s2 := v2.size; try simp at s2; (first | (with_reducible have b2 : RB 63 (Value.slice none 0 0) v2.val z.val.heap.size := RB.up b0 v2) | (with_reducible have b2 : RB 63 (Value.slice none 0 0) v2.val z.val.heap.size := RB.up (RB.alloc b0 _) v2) | skip); (first | (with_reducible have b3 : RB 63 (Value.slice none 0 0) v2.val (z.val.heap.size + 1) := RB.up b1 v2) | skip); (first | (with_reducible have b4 : RB 63 (Value.slice none 0 0) v2.val v1.val.heap.size := RB.up (RB.new _ _ _) v2) | (with_reducible have b4 : RB 63 (Value.slice none 0 0) v2.val v1.val.heap.size := RB.up (RB.alloc (RB.new _ _ _) _) v2) | skip); (first | (with_reducible have b5 : RB 63 (Value.slice none 0 0) v2.val (v1.val.heap.size + 1) := RB.up (RB.new2 _ _ _ _) v2) | skip); try have n2 : z.val.heap.size ≠ v2.val.heap.size := (by omega); try have n3 : v2.val.heap.size ≠ z.val.heap.size := (by omega); try have n4 : v1.val.heap.size ≠ v2.val.heap.size := (by omega); try have n5 : v2.val.heap.size ≠ v1.val.heap.size := (by omega)) | fail)
    all_goals
      go_wp2
      go_meet
      case rel =>
        refine TwoBoxM.mk (by first | omega | (dsimp only; omega) | (simp; omega)) (by first | omega | (dsimp only; omega) | (simp; omega)) (ax := ax) (az := az) (gc1 := gc1) (gc2 := gc2) (hd1 := hd1) (r1 := r1) (cp1 := cp1) (hd2 := hd2) (r2 := r2) (cp2 := cp2) ?_ ?_ ?_ ?_ ?_
        · (repeat (first | (with_reducible exact hbz) | (with_reducible refine Bel.up ?_ _) | (with_reducible refine Bel.alloc ?_ _) | (with_reducible refine Bel.drew ?_) | (with_reducible refine Bel.set ?_ (by first | omega | (dsimp only; omega) | (simp; omega)) _)))
        · (repeat (first | (with_reducible assumption) | (with_reducible exact RB.new _ _ _) | (with_reducible exact RB.new2 _ _ _ _) | (with_reducible refine RB.up ?_ _) | (with_reducible refine RB.alloc ?_ _) | (with_reducible refine RB.drew ?_) | (with_reducible refine RB.same (v := (Value.slice none 0 0)) ?_ _) | (with_reducible refine RB.set ?_ (by first | assumption | omega) _)))
        · (repeat (first | (with_reducible assumption) | (with_reducible exact RB.new _ _ _) | (with_reducible exact RB.new2 _ _ _ _) | (with_reducible refine RB.up ?_ _) | (with_reducible refine RB.alloc ?_ _) | (with_reducible refine RB.drew ?_) | (with_reducible refine RB.same (v := (Value.slice none 0 0)) ?_ _) | (with_reducible refine RB.set ?_ (by first | assumption | omega) _)))
        · (repeat (first | (with_reducible assumption) | (with_reducible refine Mtx.upI ?_ _) | (with_reducible refine Mtx.allocI ?_ _) | (with_reducible refine Mtx.drewI ?_) | (with_reducible refine Mtx.rbset ?_ (by (repeat (first | (with_reducible assumption) | (with_reducible exact RB.new _ _ _) | (with_reducible exact RB.new2 _ _ _ _) | (with_reducible refine RB.up ?_ _) | (with_reducible refine RB.alloc ?_ _) | (with_reducible refine RB.drew ?_) | (with_reducible refine RB.same (v := (Value.slice none 0 0)) ?_ _) | (with_reducible refine RB.set ?_ (by first | assumption | omega) _)))))))
        · (repeat (first | (with_reducible assumption) | (with_reducible refine Mtx.upI ?_ _) | (with_reducible refine Mtx.allocI ?_ _) | (with_reducible refine Mtx.drewI ?_) | (with_reducible refine Mtx.rbset ?_ (by (repeat (first | (with_reducible assumption) | (with_reducible exact RB.new _ _ _) | (with_reducible exact RB.new2 _ _ _ _) | (with_reducible refine RB.up ?_ _) | (with_reducible refine RB.alloc ?_ _) | (with_reducible refine RB.drew ?_) | (with_reducible refine RB.same (v := (Value.slice none 0 0)) ?_ _) | (with_reducible refine RB.set ?_ (by first | assumption | omega) _)))))))
  case rest => as_aux_lemma =>
    clear z hz HR1 HR2
    obtain ⟨g1, g2, gc1, gc2, ax, az, hd1, hd2, r1, r2, cp1, cp2, v, rfl, rfl, rfl, hR1, hR2, hT1, hT2, hk1, hk2⟩ := hcut
    have hp1 : ∀ (args : Array Value) (w : World), (callFunc 48 args).run Try.prog w = .ok (.enter 48 args) w := fun _ _ => by kernel_rfl
    have hsf := fun (a : Addr) (c : Array Value) (w : World) => run_store Try.prog w a (.func (.func 48) #[] c) .plain rfl
    have HT1 := Lib.hid hT1
    have HT2 := Lib.hid hT2
    have HR1 := Lib.hid hR1
    have HR2 := Lib.hid hR2
    have hvs := v.size
    have HLY : Hid (∀ w : World, Below v.val.heap.size v.val w → v.val.heap.size ≤ w.heap.size → ∃ y : Later Y.heap.size Y, y.val = w) := Lib.hid (fun w hb hs => ⟨v.to w (hb.mono v.size), rfl⟩)
    have hgu3 := hY1.out
    have HG : Hid (gu + 3 ≤ g1 ∧ gu + 3 ≤ g2) := Lib.hid ⟨by omega, by omega⟩
    clear hT1 hT2 hR1 hR2 hk1 hk2
    generalize v.val = V at *
    clear v
    have y0 : ∀ w : World, Below V.heap.size V w → V.heap.size ≤ w.heap.size → w.cell? ⟨gu, 0, none⟩ = some (.int .i64 n1) := fun w hb hs => by obtain ⟨y, rfl⟩ := HLY.out w hb hs; exact x0 y
    have y1 : ∀ w : World, Below V.heap.size V w → V.heap.size ≤ w.heap.size → w.cell? ⟨gu, 1, none⟩ = some (.slice a L1.length cap) := fun w hb hs => by obtain ⟨y, rfl⟩ := HLY.out w hb hs; exact x1 y
    have y2 : ∀ w : World, Below V.heap.size V w → V.heap.size ≤ w.heap.size → w.cell? ⟨gu + 1, 0, none⟩ = some (.int .i64 n2) := fun w hb hs => by obtain ⟨y, rfl⟩ := HLY.out w hb hs; exact x2 y
    have y3 : ∀ w : World, Below V.heap.size V w → V.heap.size ≤ w.heap.size → w.cell? ⟨gu + 1, 1, none⟩ = some (.slice b L2.length capb) := fun w hb hs => by obtain ⟨y, rfl⟩ := HLY.out w hb hs; exact x3 y
    have y2V := y2 V (Below.refl _ _) (Nat.le_refl _)
    have bc := bit_cast n2
    have w1 := IntWalk.i64_in (bit n2 : Int) (by omega)
    have hmk := mk_tab (bit n2) (by omega)
    go_upto_region 3 with fail
    have T0 : Hid (ITab ((V.alloc (.cells (madeCells #[.int .i64 0] (bit n2)) 3)).alloc (.cells #[.slice (some ⟨V.heap.size, 0, none⟩) (bit n2) (bit n2)] 22)) V.heap.size (bit n2) (fun s => cntK L2 s 0)) := Lib.hid (((ITab.made V (bit n2)).congr (fun j _ => rfl)).allocI _)
    have B0' : Hid (RowAt1 ((V.alloc (.cells (madeCells #[.int .i64 0] (bit n2)) 3)).alloc (.cells #[.slice (some ⟨V.heap.size, 0, none⟩) (bit n2) (bit n2)] 22)) (V.heap.size + 1) 22 (.slice (some ⟨V.heap.size, 0, none⟩) (bit n2) (bit n2))) := Lib.hid (by
      have h := heap_alloc_new (V.alloc (.cells (madeCells #[.int .i64 0] (bit n2)) 3)) (.cells #[.slice (some ⟨V.heap.size, 0, none⟩) (bit n2) (bit n2)] 22)
      rw [show (V.alloc (.cells (madeCells #[.int .i64 0] (bit n2)) 3)).heap.size = V.heap.size + 1 by simp] at h
      exact h)
    obtain ⟨z, hz⟩ : ∃ z : Later V.heap.size V, z.val = ((V.alloc (.cells (madeCells #[.int .i64 0] (bit n2)) 3)).alloc (.cells #[.slice (some ⟨V.heap.size, 0, none⟩) (bit n2) (bit n2)] 22)) := ⟨⟨_, (((Below.refl _ _).alloc (Nat.le_refl _) _).alloc (by simp) _), by simp; omega⟩, rfl⟩
    have Hzs : Hid (V.heap.size + 2 ≤ z.val.heap.size) := Lib.hid (by rw [hz]; simp)
    rw [← hz] at T0 B0' ⊢
    clear hz hmk y2V w1
    go_wp2
    go_loopw [9] (fun kv wr => ∃ (k : Nat) (z : Later V.heap.size V), k ≤ L2.length ∧ kv = .int .i64 k ∧ wr = z.val ∧ Hid (V.heap.size + 2 ≤ z.val.heap.size) ∧ Hid (ITab z.val V.heap.size (bit n2) (fun s => cntK L2 s k)) ∧ Hid (RowAt1 z.val (V.heap.size + 1) 22 (.slice (some ⟨V.heap.size, 0, none⟩) (bit n2) (bit n2)))) (fun kv _ => L2.length - (intOf kv).toNat)
    case atStart => exact ⟨0, z, by omega, rfl, rfl, Hzs, T0, B0'⟩
    case round =>
      clear Hzs T0 B0' z
      obtain ⟨k, z, hk, rfl, rfl, Hzs, HT, HB⟩ := hrel
      have yz3 := y3 z.val z.below z.size
      by_cases hlt : k < L2.length
      · obtain ⟨be, oe, rfl, hbe, hce⟩ := HLi2.out.at (k := k) (by rw [ints_len]; exact hlt)
        have hbm : L2.getD k 0 ∈ L2 := by simp [hlt]
        have hbl := HL2.out _ hbm
        have c1 : ∀ w : Later z.val.heap.size z.val, w.val.cell? ⟨V.heap.size + 1, 0, none⟩ = some (.slice (some ⟨V.heap.size, 0, none⟩) (bit n2) (bit n2)) := fun w => (HB.out.keep w.below).c0
        have c2 : ∀ w : Later z.val.heap.size z.val, w.val.cell? ⟨gu + 1, 1, none⟩ = some (.slice (some ⟨be, oe, none⟩) L2.length capb) := fun w => y3 w.val (z.below.trans (w.below.mono z.size)) (Nat.le_trans z.size w.size)
        have c3 : ∀ w : Later z.val.heap.size z.val, w.val.cell? ⟨be, oe + k, none⟩ = some (.int .i64 ((L2.getD k 0 : Nat) : Int)) := fun w => by
          obtain ⟨y, hy⟩ := HLY.out w.val (z.below.trans (w.below.mono z.size)) (Nat.le_trans z.size w.size)
          rw [← hy, ← ints_getD]
          have hg := Hgu.out
          have hu := HU.out
          exact hce ⟨y.val, y.below.mono (by rw [← hu] at hg; omega), by have := y.size; rw [← hu] at hg; omega⟩ k (by rw [ints_len]; exact hlt)
        have c4 : ∀ w : Later z.val.heap.size z.val, w.val.cell? ⟨V.heap.size, L2.getD k 0, none⟩ = some (.int .i64 (cntK L2 (L2.getD k 0) k)) := fun w => (HT.out.keep w.below).cell hbl
        have c5 : ∀ w : Later z.val.heap.size z.val, w.val.frozen? ⟨V.heap.size, L2.getD k 0, none⟩ = false := fun w => (HT.out.keep w.below).frozen _
        have hcb := cntK_bd L2 (L2.getD k 0) k
        have w2 := IntWalk.i64_in (cntK L2 (L2.getD k 0) k + 1) (by omega)
        have HTn : Hid (∀ w : Later z.val.heap.size z.val, ITab (w.val.setCell ⟨V.heap.size, L2.getD k 0, none⟩ (.int .i64 (cntK L2 (L2.getD k 0) k + 1))) V.heap.size (bit n2) (fun s => cntK L2 s (k + 1))) := Lib.hid (fun w => (HT.out.keep w.below).set _ _ (fun j _ => by
          show cntK L2 j k + (if L2.getD k 0 = j then 1 else 0) = _
          by_cases e : j = L2.getD k 0
          · subst e; rw [if_pos rfl, if_pos rfl]
          · rw [if_neg (fun c => e c.symm), if_neg e]; omega))
        have hgz : V.heap.size < z.val.heap.size := by have := Hzs.out; omega
        clear hce hbm
        generalize cntK L2 (L2.getD k 0) k = cv at *
        generalize L2.getD k 0 = bk at *
        go_upto_region 6 with fail
        refine wp_region_later_tail (Later.self z.val) 10 (by kernel_rfl) (by kernel_rfl) (fun z2 => ?_)
        simp only [List.take_succ_cons, List.take_zero, List.drop_succ_cons, List.drop_zero]
        repeat still_step
        refine wpStill_nil ?_
        go_wp2
        go_roundw
        case rel => exact ⟨k + 1, (z.up z2).set ⟨V.heap.size, bk, none⟩ (Nat.le_refl _) _, by omega, by go_num, by first | rfl | trivial, Lib.hid (by have := z2.size; have := Hzs.out; show V.heap.size + 2 ≤ (z2.val.setCell _ _).heap.size; simp; omega), HTn.out z2, Lib.hid (row1_other (HB.out.keep z2.below) (by omega) _)⟩
        case measure => simp [intOf]; omega
      · have hke : k = L2.length := by omega
        subst hke
        clear hlt hk
        go_upto_region 10 with fail
        rw [show ((z.val.alloc (.cells #[.slice none 0 0] 22)).alloc (.cells #[.func (.func 48) #[] #[.pointer (some ⟨z.val.heap.size, 0, none⟩), .pointer (some ⟨gu, 0, none⟩), .pointer (some ⟨V.heap.size + 1, 0, none⟩), .pointer (some ⟨gu + 2, 0, none⟩), .pointer (some ⟨gu + 1, 0, none⟩), .pointer (some ⟨g1, 0, none⟩), .pointer (some ⟨g2, 0, none⟩), .pointer (some ⟨z.val.heap.size + 1, 0, none⟩)]] 65)) = madeO z.val gu (V.heap.size + 1) (gu + 2) (gu + 1) g1 g2 from rfl]
        have C3 := Lib.hid (madeO_cells z.val gu (V.heap.size + 1) (gu + 2) (gu + 1) g1 g2)
        have S3 := Lib.hid (madeO_size z.val gu (V.heap.size + 1) (gu + 2) (gu + 1) g1 g2)
        have B3 := Lib.hid (madeO_below z.val gu (V.heap.size + 1) (gu + 2) (gu + 1) g1 g2)
        have r2' := C3.out.2.c0
        generalize madeO z.val gu (V.heap.size + 1) (gu + 2) (gu + 1) g1 g2 = M at *
        have HBM : Hid (Below V.heap.size V M) := Lib.hid (z.below.trans (B3.out.mono z.size))
        have hMs : V.heap.size ≤ M.heap.size := by have := S3.out; have := z.size; omega
        have m0 := y0 M HBM.out hMs
        have m1 := y1 M HBM.out hMs
        have m2 := y2 M HBM.out hMs
        have m3 := y3 M HBM.out hMs
        have BM : Hid (Below gu U M) := Lib.hid (by
          obtain ⟨y, hy⟩ := HLY.out M HBM.out hMs
          have h1 := HBY.out.trans (y.below.mono (by omega))
          rwa [hy] at h1)
        have HFin : Hid (∀ (v' : Off M.heap.size (fun k => k = z.val.heap.size ∨ D k) M) (bp : Nat) (o : Option Nat) (F : List (List Nat)), gu ≤ bp → F = ordF on n1 n2 L1 L2 → I bp o F v'.val → EachPost U D I (ordF on n1 n2 L1 L2) (.returned (.tuple #[])) v'.val) := Lib.hid (fun v' bp o F hbp hF h => by
          have hg := Hgu.out
          have hbm := BM.out
          have hzz := Hzs.out
          subst hF
          refine ⟨rfl, ⟨v'.val, v'.os.trans hbm.os, v'.tape.trans hbm.tape, v'.output.trans hbm.output, Nat.le_trans hbm.size v'.size, by have := v'.size; have := hbm.size; omega, fun k hk hn => ?_⟩, rfl, bp, o, by omega, h⟩
          rw [v'.block k (by omega) (fun c => by
            rcases c with c | c
            · omega
            · exact hn c)]
          exact hbm.block k (by omega))
        obtain ⟨vM, hvM⟩ : ∃ vM : Off M.heap.size (fun k => k = z.val.heap.size ∨ D k) M, vM.val = M := ⟨Off.self _ _ (Nat.le_refl _), rfl⟩
        have HE0 : Hid (I V.heap.size none [] M) := Lib.hid (HIn.out V.heap.size M (by omega) BM.out)
        by_cases hnn : n1 = n2
        case neg =>
          have d1 : ((n1 : Int) == (n2 : Int)) = false := by rw [beq_eq_false_iff_ne]; omega
          have HF0 : Hid ([] = ordF on n1 n2 L1 L2) := Lib.hid (if_neg (fun h => hnn h.1)).symm
          clear hnn r2'
          go_wp2
          go_end0
          rw [← hvM]
          exact HFin.out vM V.heap.size none [] (by omega) HF0.out (by rw [hvM]; exact HE0.out)
        subst hnn
        have d1 : ((n1 : Int) == (n1 : Int)) = true := by simp
        by_cases hll : L1.length = L2.length
        case neg =>
          have d2 : ((L1.length : Int) == (L2.length : Int)) = false := by rw [beq_eq_false_iff_ne]; omega
          have d3 : (L1.length == L2.length) = false := by rw [beq_eq_false_iff_ne]; exact hll
          have HF0 : Hid ([] = ordF on n1 n1 L1 L2) := Lib.hid (if_neg (fun h => hll h.2)).symm
          clear hll r2'
          go_wp2
          go_end0
          rw [← hvM]
          exact HFin.out vM V.heap.size none [] (by omega) HF0.out (by rw [hvM]; exact HE0.out)
        have d2 : ((L1.length : Int) == (L2.length : Int)) = true := by rw [beq_iff_eq]; omega
        have d3 : (L1.length == L2.length) = true := by rw [beq_iff_eq]; exact hll
        have HF0 : Hid (cutF on (srch n1 (okH n1 L1 L2) (finB L1 L2) n1 []) = ordF on n1 n1 L1 L2) := Lib.hid (if_pos ⟨rfl, hll⟩).symm
        have K : Hid (Calls Try.prog 48 #[.pointer (some ⟨z.val.heap.size, 0, none⟩), .pointer (some ⟨gu, 0, none⟩), .pointer (some ⟨V.heap.size + 1, 0, none⟩), .pointer (some ⟨gu + 2, 0, none⟩), .pointer (some ⟨gu + 1, 0, none⟩), .pointer (some ⟨g1, 0, none⟩), .pointer (some ⟨g2, 0, none⟩), .pointer (some ⟨z.val.heap.size + 1, 0, none⟩)] M (FromPost M.heap.size z.val.heap.size M D on (I z.val.heap.size) [] [] (srch n1 (okH n1 L1 L2) (finB L1 L2) n1 []))) := Lib.hid (by
          have hzz := Hzs.out
          have hs3 := S3.out
          have hb3 := B3.out
          have hDl := HDl.out
          have hDb := HDb.out
          have hg := HG.out
          have hgu := Hgu.out
          have hu := HU.out
          have hB0 : B0 ≤ gu := huB
          obtain ⟨y, hy⟩ := HLY.out M HBM.out hMs
          have hyb := y.below
          rw [hy] at hyb
          have hblk : ∀ (v : Off M.heap.size (fun k => k = z.val.heap.size ∨ D k) M) (k : Nat), gu ≤ k → k < M.heap.size → k ≠ z.val.heap.size → v.val.heap[k]? = M.heap[k]? := fun v k h1 h2 h3 => v.block k h2 (fun c => by
            rcases c with c | c
            · exact h3 c
            · have := hDl k c; omega)
          have hcell : ∀ (v : Off M.heap.size (fun k => k = z.val.heap.size ∨ D k) M) (q : Addr), gu ≤ q.block → q.block < M.heap.size → q.block ≠ z.val.heap.size → v.val.cell? q = M.cell? q := fun v q h1 h2 h3 => World.cell?_of_block (w := M) (hblk v q.block h1 h2 h3)
          have MT1 := HT1.out.keep HBM.out
          have MT2 := HT2.out.keep HBM.out
          have hl1 : g1 < V.heap.size := RowAt1.lt HR1.out
          have hl2 : g2 < V.heap.size := RowAt1.lt HR2.out
          obtain ⟨gx, hgx⟩ : ∃ gx, 0 < n1 → ax = some ⟨gx, 0, none⟩ ∧ Y.heap.size ≤ gx ∧ gx < V.heap.size := by
            by_cases c : 0 < n1
            · obtain ⟨gx, h⟩ := HT1.out.some' c
              exact ⟨gx, fun _ => h⟩
            · exact ⟨0, fun h => absurd h c⟩
          obtain ⟨gz, hgz⟩ : ∃ gz, 0 < n1 → az = some ⟨gz, 0, none⟩ ∧ Y.heap.size ≤ gz ∧ gz < V.heap.size := by
            by_cases c : 0 < n1
            · obtain ⟨gz, h⟩ := HT2.out.some' c
              exact ⟨gz, fun _ => h⟩
            · exact ⟨0, fun h => absurd h c⟩
          have hrows : ∀ (ad : Option Addr) (gc : Nat) (hd : Nat → Option Addr) (r cp : Nat → Nat) (P : Nat → Nat → Int) (g : Nat), Mtx Y.heap.size V ad gc n1 10 hd r cp P → Mtx Y.heap.size M ad gc n1 10 hd r cp P → ad = some ⟨g, 0, none⟩ → Y.heap.size ≤ g → g < V.heap.size → ∀ i, i < n1 → ∃ r cp, (∀ v : Off M.heap.size (fun k => k = z.val.heap.size ∨ D k) M, v.val.cell? ⟨g, i, none⟩ = some (.slice (some ⟨r, 0, none⟩) 10 cp)) ∧ ∀ v : Off M.heap.size (fun k => k = z.val.heap.size ∨ D k) M, IntsAt v.val.heap.size v.val (some ⟨r, 0, none⟩) (tabL 10 (P i)) := fun ad gc hd r cp P g hV hM e h1 h2 i hi => by
            subst e
            have hr := hV.rlt (by omega) hi
            refine ⟨r i, cp i, fun v => ?_, fun v => ints_of (by have := v.size; omega) (fun t ht => ?_)⟩
            · rw [hcell v ⟨g, i, none⟩ (by show gu ≤ g; omega) (by show g < M.heap.size; omega) (by show g ≠ z.val.heap.size; omega), hM.tcell hi, hM.hdr (by omega) i hi]
            · rw [hcell v ⟨r i, t, none⟩ (by show gu ≤ r i; omega) (by show r i < M.heap.size; omega) (by show r i ≠ z.val.heap.size; omega)]
              exact hM.cell hi ht
          refine c_ordFrom M.heap.size z.val.heap.size M D n1 L1 L2 (fun s => cntK L2 s L2.length) on kf caps (I z.val.heap.size) a ax az cap V.heap.size (bit n1) gx gc1 gz gc2 gu (V.heap.size + 1) (gu + 2) (gu + 1) g1 g2 (z.val.heap.size + 1)
            { n8 := hn1
              hbp := by omega
              len := hlen1
              lt := HL1.out
              cnt0 := fun s _ => cntK_zero L2 s
              ca := fun v => by rw [hcell v ⟨gu, 0, none⟩ (Nat.le_refl _) (by show gu < M.heap.size; omega) (by show gu ≠ z.val.heap.size; omega)]; exact m0
              ca1 := fun v => by rw [hcell v ⟨gu, 1, none⟩ (Nat.le_refl _) (by show gu < M.heap.size; omega) (by show gu ≠ z.val.heap.size; omega)]; exact m1
              li := fun v => by
                have h5 := v.below (B0 := B0) (by omega) (fun k hk => by
                  rcases hk with h | h
                  · omega
                  · exact hDb k h)
                exact (HLi1.out.later ((hyb.mono (by omega)).trans h5)).mono (by have := v.size; omega)
              cs_ := fun v => by
                rw [hcell v ⟨V.heap.size + 1, 0, none⟩ (by show gu ≤ V.heap.size + 1; omega) (by show V.heap.size + 1 < M.heap.size; omega) (by show V.heap.size + 1 ≠ z.val.heap.size; omega)]
                exact (HB.out.keep hb3).c0
              ts := fun v s hs => by
                rw [hcell v ⟨V.heap.size, s, none⟩ (by show gu ≤ V.heap.size; omega) (by show V.heap.size < M.heap.size; omega) (by show V.heap.size ≠ z.val.heap.size; omega)]
                exact (HT.out.keep hb3).cell hs
              cd := fun v => by
                rw [hcell v ⟨gu + 2, 0, none⟩ (by show gu ≤ gu + 2; omega) (by show gu + 2 < M.heap.size; omega) (by show gu + 2 ≠ z.val.heap.size; omega)]
                exact RowAt1.c0 (X3.out.keep hyb)
              cb := fun v => by rw [hcell v ⟨gu + 1, 0, none⟩ (by show gu ≤ gu + 1; omega) (by show gu + 1 < M.heap.size; omega) (by show gu + 1 ≠ z.val.heap.size; omega)]; exact m2
              cx_ := fun v => by
                rw [hcell v ⟨g1, 0, none⟩ (by show gu ≤ g1; omega) (by show g1 < M.heap.size; omega) (by show g1 ≠ z.val.heap.size; omega)]
                exact RowAt1.c0 (RowAt1.keep HR1.out HBM.out)
              hax := fun h => (hgx h).1
              hx := fun i hi => hrows _ _ _ _ _ _ _ HT1.out MT1 (hgx (by omega)).1 (hgx (by omega)).2.1 (hgx (by omega)).2.2 i hi
              cz_ := fun v => by
                rw [hcell v ⟨g2, 0, none⟩ (by show gu ≤ g2; omega) (by show g2 < M.heap.size; omega) (by show g2 ≠ z.val.heap.size; omega)]
                exact RowAt1.c0 (RowAt1.keep HR2.out HBM.out)
              haz := fun h => (hgz h).1
              hz := fun i hi => hrows _ _ _ _ _ _ _ HT2.out MT2 (hgz (by omega)).1 (hgz (by omega)).2.1 (hgz (by omega)).2.2 i hi
              cf := fun v => by
                rw [hcell v ⟨z.val.heap.size + 1, 0, none⟩ (by show gu ≤ z.val.heap.size + 1; omega) (by show z.val.heap.size + 1 < M.heap.size; omega) (by show z.val.heap.size + 1 ≠ z.val.heap.size; omega)]
                exact r2' }
            (HDn.out z.val.heap.size M (by omega) (by omega) BM.out) n1 [] [] none 0 (Off.self _ _ (Nat.le_refl _)) (Pre.nil n1) (by simp) (fun _ => rfl) ⟨C3.out.1, Own.nil _ _⟩ (HIn.out z.val.heap.size M (by omega) BM.out))
        clear HE0 hll
        go_wp2_with (first | (go_at_call 48; (with_reducible refine (K.out).mono ?_); rintro e _ ⟨v', rfl, rfl, ad, cp, hP, hI⟩) | fail)
        go_end0
        exact HFin.out v' z.val.heap.size (ownBlk ad) _ (by have := Hzs.out; omega) HF0.out (by rwa [List.nil_append] at hI)
end Go.Proofs.Ytdcdhdlklppalaa
