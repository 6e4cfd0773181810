
/-
  rotaref.Canon.
-/
import Derived.Test.YtdcdhdlklppalaaPk44
import Derived.Test.YtdcdhdlklppalaaPk13
namespace Go.Proofs.Ytdcdhdlklppalaa
open Go.RowKit
set_option linter.unusedVariables false

theorem pre_nil (n : Nat) : Pre n [] := ⟨fun i hi => by simp at hi, fun i j hi => by simp at hi⟩
/-- the answer: the least list -/
def CanAns (n : Nat) (L : List Nat) (X : List Int) : Prop := X.length ≤ 256 ∧ Bst (fun q => ren q L) (Pm n) (ints L) X
theorem CanAns.uniq {n : Nat} {L : List Nat} {X Y : List Int} (h : CanAns n L X) (g : CanAns n L Y) : X = Y := h.2.uniq g.2

def madeC (w : World) (x : Value) (ba : Nat) : World := ((w.alloc (.cells #[x] 22)).alloc (.cells #[.slice none 0 0] 22)).alloc (.cells #[.func (.func 28) #[] #[.pointer (some ⟨w.heap.size + 1, 0, none⟩), .pointer (some ⟨ba, 0, none⟩), .pointer (some ⟨w.heap.size, 0, none⟩), .pointer (some ⟨w.heap.size + 2, 0, none⟩)]] 1)
theorem madeC_size (w : World) (x : Value) (ba : Nat) : (madeC w x ba).heap.size = w.heap.size + 3 := by simp [madeC]
theorem madeC_below (w : World) (x : Value) (ba : Nat) : Below w.heap.size w (madeC w x ba) := by
  unfold madeC
  refine Below.alloc (Below.alloc (Below.alloc (Below.refl _ _) ?_ _) ?_ _) ?_ _ <;> simp <;> omega
theorem madeC_cells (w : World) (x : Value) (ba : Nat) : RowAt1 (madeC w x ba) w.heap.size 22 x ∧ RowAt1 (madeC w x ba) (w.heap.size + 1) 22 (.slice none 0 0) ∧ RowAt1 (madeC w x ba) (w.heap.size + 2) 1 (.func (.func 28) #[] #[.pointer (some ⟨w.heap.size + 1, 0, none⟩), .pointer (some ⟨ba, 0, none⟩), .pointer (some ⟨w.heap.size, 0, none⟩), .pointer (some ⟨w.heap.size + 2, 0, none⟩)]) := by
  refine ⟨?_, ?_, ?_⟩
  · exact row1_under (row1_under (heap_alloc_new w _) _) _
  · have h := heap_alloc_new (w.alloc (.cells #[x] 22)) (.cells #[.slice none 0 0] 22)
    rw [show (w.alloc (.cells #[x] 22)).heap.size = w.heap.size + 1 by simp] at h
    exact row1_under h _
  · have h := heap_alloc_new ((w.alloc (.cells #[x] 22)).alloc (.cells #[.slice none 0 0] 22)) (.cells #[.func (.func 28) #[] #[.pointer (some ⟨w.heap.size + 1, 0, none⟩), .pointer (some ⟨ba, 0, none⟩), .pointer (some ⟨w.heap.size, 0, none⟩), .pointer (some ⟨w.heap.size + 2, 0, none⟩)]] 1)
    rw [show ((w.alloc (.cells #[x] 22)).alloc (.cells #[.slice none 0 0] 22)).heap.size = w.heap.size + 2 by simp] at h
    exact h

set_option maxRecDepth 100000 in
set_option maxHeartbeats 20000000 in
theorem c_refCanon {B : Nat} {W : World} (u : Later B W) (n : Nat) (hn : n ≤ 8) (L : List Nat) (a : Option Addr) (cap : Nat) (h : IntsAt B W a (ints L)) (hcap : a = none → cap = 0) (hlen : L.length ≤ 256) (hlt : ∀ x, x ∈ L → x < bit n) :
    Calls Try.prog 8 #[.agg #[.int .i64 n, .slice a L.length cap]] u.val (RetP B W (fun v w => ∃ X ad cp, CanAns n L X ∧ v = .agg #[.int .i64 n, .slice ad X.length cp] ∧ IntsAt w.heap.size w ad X ∧ ∀ x, ad = some x → B ≤ x.block)) := by
  have hB := u.size
  have e1 : (u.val.alloc (.cells #[.int .i64 n, .slice a L.length cap] 24)).heap.size = u.val.heap.size + 1 := by simp
  have hYs : Hid (((u.val.alloc (.cells #[.int .i64 n, .slice a L.length cap] 24)).alloc (.cells #[.int .i64 0, .slice none 0 0] 24)).heap.size = u.val.heap.size + 2) := Lib.hid (by simp)
  have XA : Hid (RowL ((u.val.alloc (.cells #[.int .i64 n, .slice a L.length cap] 24)).alloc (.cells #[.int .i64 0, .slice none 0 0] 24)) u.val.heap.size 24 [.int .i64 n, .slice a L.length cap]) := Lib.hid ((RowL.new _ _ _).keep ((Below.refl _ _).alloc (Nat.le_refl _) _))
  have XB : Hid (RowL ((u.val.alloc (.cells #[.int .i64 n, .slice a L.length cap] 24)).alloc (.cells #[.int .i64 0, .slice none 0 0] 24)) (u.val.heap.size + 1) 24 [.int .i64 0, .slice none 0 0]) := Lib.hid (by
    have h := RowL.new (u.val.alloc (.cells #[.int .i64 n, .slice a L.length cap] 24)) 24 [.int .i64 0, .slice none 0 0]
    rwa [e1] at h)
  have HV : Hid (∀ v : Later ((u.val.alloc (.cells #[.int .i64 n, .slice a L.length cap] 24)).alloc (.cells #[.int .i64 0, .slice none 0 0] 24)).heap.size ((u.val.alloc (.cells #[.int .i64 n, .slice a L.length cap] 24)).alloc (.cells #[.int .i64 0, .slice none 0 0] 24)), ∃ w : Later B W, w.val = v.val) := Lib.hid (fun v => ⟨((u.alloc _).alloc _).up v, rfl⟩)
  have HI : Hid (IntsAt ((u.val.alloc (.cells #[.int .i64 n, .slice a L.length cap] 24)).alloc (.cells #[.int .i64 0, .slice none 0 0] 24)).heap.size ((u.val.alloc (.cells #[.int .i64 n, .slice a L.length cap] 24)).alloc (.cells #[.int .i64 0, .slice none 0 0] 24)) a (ints L)) := Lib.hid (h.to ((u.alloc _).alloc _))
  have HC := Lib.hid hcap
  have HL := Lib.hid hlt
  have hil : Hid ((ints L).length = L.length) := Lib.hid (ints_len L)
  clear e1 h hcap hlt
  go_enter Try.func8, Try.ntmps8
  go_upto_region 1 with fail
  generalize u.val.heap.size = g at *
  generalize ((u.val.alloc (.cells #[.int .i64 n, .slice a L.length cap] 24)).alloc (.cells #[.int .i64 0, .slice none 0 0] 24)) = Y at *
  obtain ⟨y0, hy0⟩ : ∃ y : Later Y.heap.size Y, y.val = Y := ⟨Later.self _, rfl⟩
  rw [← hy0]
  clear hy0
  have q1 : y0.val.cell? ⟨g, 1, none⟩ = some (.slice a L.length cap) := (XA.out.keep y0.below).cell rfl
  have hsf := fun (a : Addr) (c : Array Value) (w : World) => run_store Try.prog w a (.func (.func 28) #[] c) .plain rfl
  have hp1 : ∀ (args : Array Value) (w : World), (callFunc 28 args).run Try.prog w = .ok (.enter 28 args) w := fun _ _ => by kernel_rfl
  go_upto_region 5 with (first | (at_builtin; refine wpList_appends_g (B := y0.val.heap.size) (Nat.le_refl _) rfl _ _ rfl [] none 0 rfl (Own.nil _ _) (ints L) a cap (by rw [hil.out]; rfl) (HI.out.to y0) HC.out (by rw [hil.out]; simp; omega) ?_; intro w' ad' cap' hown hgrow; have HOw := Lib.hid hown; have HGw := Lib.hid hgrow; clear hown hgrow) | fail)
  obtain ⟨y, rfl⟩ : ∃ y : Later y0.val.heap.size y0.val, y.val = w' := ⟨⟨w', ⟨HGw.out.os, HGw.out.tape, HGw.out.output, HGw.out.size, fun k hk => HGw.out.block k hk (by simp [Value.ownBlock])⟩, HGw.out.size⟩, rfl⟩
  have HO : Hid (Own y0.val.heap.size y.val ad' cap' (ints L)) := Lib.hid (by have := HOw.out; rwa [List.nil_append] at this)
  clear HGw HOw
  have hy0s := y0.size
  have hys := y.size
  have hg2 := hYs.out
  have HXA : Hid (RowL y.val g 24 [.int .i64 n, .slice a L.length cap]) := Lib.hid (XA.out.keep (y0.up y).below)
  have HXB : Hid (RowL y.val (g + 1) 24 [.int .i64 0, .slice none 0 0]) := Lib.hid (XB.out.keep (y0.up y).below)
  have HIy : Hid (IntsAt Y.heap.size y.val a (ints L)) := Lib.hid (HI.out.later (y0.up y).below)
  have HVy : Hid (∀ v : Later Y.heap.size y.val, ∃ w : Later B W, w.val = v.val) := Lib.hid (fun v => HV.out ((y0.up y).to v.val v.below))
  clear XA XB HI HV q1 hsf hy0s
  rw [show (((y.val.alloc (.cells #[.slice ad' (ints L).length cap'] 22)).alloc (.cells #[.slice none 0 0] 22)).alloc (.cells #[.func (.func 28) #[] #[.pointer (some ⟨y.val.heap.size + 1, 0, none⟩), .pointer (some ⟨g, 0, none⟩), .pointer (some ⟨y.val.heap.size, 0, none⟩), .pointer (some ⟨y.val.heap.size + 1 + 1, 0, none⟩)]] 1)) = madeC y.val (.slice ad' (ints L).length cap') g from rfl]
  have C3 := Lib.hid (madeC_cells y.val (.slice ad' (ints L).length cap') g)
  have S3 := Lib.hid (madeC_size y.val (.slice ad' (ints L).length cap') g)
  have B3 := Lib.hid (madeC_below y.val (.slice ad' (ints L).length cap') g)
  generalize madeC y.val (.slice ad' (ints L).length cap') g = M at *
  have hgy : g + 2 ≤ y.val.heap.size := by have := y0.size; omega
  have HXM : Hid (RowL M g 24 [.int .i64 n, .slice a L.length cap]) := Lib.hid (HXA.out.keep B3.out)
  have HYM : Hid (RowL M (g + 1) 24 [.int .i64 0, .slice none 0 0]) := Lib.hid (HXB.out.keep B3.out)
  have HIM : Hid (IntsAt Y.heap.size M a (ints L)) := Lib.hid (HIy.out.later (B3.out.mono (by omega)))
  have hs3 := S3.out
  have HOk : Hid (CnOk M.heap.size (y.val.heap.size + 1) M n L a cap g y.val.heap.size (y.val.heap.size + 2)) := Lib.hid
    { n8 := hn
      hbp := by omega
      hbb := by omega
      hne := by omega
      len := hlen
      lt := HL.out
      ca := fun v => by rw [v.cell (a := ⟨g, 0, none⟩) (show g < M.heap.size by omega) (by show ¬ (g = _ ∨ g = _); omega)]; exact HXM.out.cell rfl
      ca1 := fun v => by rw [v.cell (a := ⟨g, 1, none⟩) (show g < M.heap.size by omega) (by show ¬ (g = _ ∨ g = _); omega)]; exact HXM.out.cell rfl
      li := fun v => (HIM.out.later (v.below (B0 := Y.heap.size) (by omega) (fun k hk => by omega))).mono (by have := v.size; omega)
      cf := fun v => by rw [v.cell (a := ⟨y.val.heap.size + 2, 0, none⟩) (show y.val.heap.size + 2 < M.heap.size by omega) (by show ¬ (y.val.heap.size + 2 = _ ∨ y.val.heap.size + 2 = _); omega)]; exact C3.out.2.2.c0 }
  have HBI : Hid (BstI (g + 2) y.val.heap.size (fun k => k = y.val.heap.size + 1 ∨ ownBlk none = some k) (ints L) M) := Lib.hid ⟨⟨ad', cap', C3.out.1, (HO.out.reads.later B3.out).mono (by omega), HO.out.cap, fun x hx => by
      have h := HO.out.blk x hx
      have := y0.size
      refine ⟨by omega, by omega, by omega, fun c => ?_⟩
      rcases c with c | c
      · omega
      · cases c⟩, (fun c => by
        rcases c with c | c
        · omega
        · cases c), by rw [hil.out]; exact hlen⟩
  have K := Lib.hid (c_canFrom (g + 2) M.heap.size (y.val.heap.size + 1) (by omega) M n L a cap g y.val.heap.size (y.val.heap.size + 2) HOk.out n [] (ints L) none 0 (Off.self M _ (Nat.le_refl _)) (pre_nil n) (by simp) ⟨C3.out.2.1, Own.nil _ _⟩ HBI.out)
  have HVM : Hid (∀ v' : Off M.heap.size (fun k => k = y.val.heap.size + 1 ∨ k = y.val.heap.size) M, ∃ w : Later B W, w.val = v'.val) := Lib.hid (fun v' => by
    have hb := v'.below (B0 := Y.heap.size) (by omega) (fun k hk => by omega)
    have hb2 := (B3.out.mono (show Y.heap.size ≤ y.val.heap.size by omega)).trans hb
    obtain ⟨w, hw⟩ := HVy.out ⟨v'.val, hb2, by have := v'.size; omega⟩
    exact ⟨w, hw⟩)
  have HYv : Hid (∀ v' : Off M.heap.size (fun k => k = y.val.heap.size + 1 ∨ k = y.val.heap.size) M, RowL v'.val (g + 1) 24 [.int .i64 0, .slice none 0 0] ∧ v'.val.cell? ⟨g, 0, none⟩ = some (.int .i64 n)) := Lib.hid (fun v' => ⟨by
    show v'.val.heap[g + 1]? = _
    rw [v'.block (g + 1) (by omega) (by omega)]; exact HYM.out, HOk.out.ca v'⟩)
  have r2 := C3.out.2.2.c0
  clear HO HIy HVy HXA HXB C3 S3 B3 HXM HYM HIM HOk HBI hs3
  dsimp only [Off.self] at K
  generalize y.val.heap.size = bb at *
  go_upto_region 6 with (first | (go_at_call 28; (with_reducible refine (K.out).mono ?_); rintro e _ ⟨rfl, v', rfl, ad, cp, hP, X, hI, hB4⟩; have HBX := Lib.hid hB4; have HIX := Lib.hid hI; clear hP hI hB4) | fail)
  obtain ⟨ab, cb, r1, r3, r4, r5⟩ := HIX.out.ex
  obtain ⟨r6, r7⟩ := HYv.out v'
  have HR6 := Lib.hid r6
  have t1 := r1.c0
  have HR3 := Lib.hid r3
  have HR5 := Lib.hid r5
  have d0 : v'.val.cell? ⟨g + 1, 0, none⟩ = some (.int .i64 0) := r6.cell rfl
  have d1 : v'.val.frozen? ⟨g + 1, 0, none⟩ = false := r6.fz 0
  have d2 : ∀ x : Value, (v'.val.setCell ⟨g + 1, 0, none⟩ x).cell? ⟨g + 1, 1, none⟩ = some (.slice none 0 0) := fun x => (HR6.out.set 0 x).cell rfl
  have d3 : ∀ x : Value, (v'.val.setCell ⟨g + 1, 0, none⟩ x).frozen? ⟨g + 1, 1, none⟩ = false := fun x => (HR6.out.set 0 x).fz 1
  clear K r2 r1 r3 r4 r5 r6 HYv
  go_wp2
  refine bodyPost_ret (results_cell_row rfl _ _ (g + 1) 24 #[.int .i64 n, .slice ab X.length cb] (0, 0) _ rfl ((HR6.out.set 0 _).set 1 _) Try.underlying24 rfl (by kernel_rfl)) rfl ?_
  obtain ⟨z1, hz1⟩ := later_set (HVM.out v') (g := g + 1) (i := 0) (by omega) (.int .i64 n)
  obtain ⟨z2, hz2⟩ := later_set ⟨z1, hz1⟩ (g := g + 1) (i := 1) (by omega) (.slice ab X.length cb)
  refine RetP.of ⟨z2, hz2⟩ ⟨X, ab, cb, ⟨HIX.out.len, HBX.out.congr ext_nil⟩, rfl, ?_, fun x hx => by have := (HR5.out x hx).1; omega⟩
  intro hne
  obtain ⟨gb, off, rfl, hlt, hc⟩ := HR3.out hne
  have hgb := (HR5.out _ rfl).1
  have hgb2 : g + 1 ≠ gb := by have : g + 2 ≤ gb := hgb; omega
  refine ⟨gb, off, rfl, by simpa using hlt, fun i hi => ?_⟩
  rw [World.cell?_setCell_far _ _ _ _ hgb2, World.cell?_setCell_far _ _ _ _ hgb2]
  exact hc i hi
end Go.Proofs.Ytdcdhdlklppalaa
