
/-
  The bases of a list of bases with numbers: rotaref.Under, values.under.
  values.under: the matroid of the bases, and what is wrong.
  The number of a basis: values.of by a binary search, rotaref.Values$1 by a search through all.
  values.Check.
-/
import Derived.Test.YtmhjhdgaecdloaaVaPl
import Derived.Test.YtmhjhdgaecdloaaRowL
import Derived.Test.YtmhjhdgaecdloaaRMat
import Derived.Deep.AppendLies
import Derived.Deep.RegionLaw
import Derived.Test.YtmhjhdgaecdloaaFam2
import Derived.Test.YtmhjhdgaecdloaaFamO
namespace Go.Proofs.Ytmhjhdgaecdloaa
open Go.RowKit
set_option linter.unusedVariables false

/-- the bases -/
def valB (vl : List (Int × Int)) : List Int := vl.map (·.1)
theorem valB_len (vl : List (Int × Int)) : (valB vl).length = vl.length := by simp [valB]
theorem valB_getD (vl : List (Int × Int)) (i : Nat) : (valB vl).getD i 0 = (vl.getD i (0, 0)).1 := by
  unfold valB
  rw [List.getD_eq_getElem?_getD, List.getElem?_map, List.getD_eq_getElem?_getD]
  cases vl[i]? <;> rfl
def basTo (vl : List (Int × Int)) (k : Nat) : List Int := (valB vl).take k
theorem basTo_len {vl : List (Int × Int)} {k : Nat} (h : k ≤ vl.length) : (basTo vl k).length = k := by simp [basTo, valB_len]; omega
theorem basTo_zero (vl : List (Int × Int)) : basTo vl 0 = [] := rfl
theorem basTo_step {vl : List (Int × Int)} {k : Nat} (h : k < vl.length) : basTo vl (k + 1) = basTo vl k ++ [(vl.getD k (0, 0)).1] := by
  have hl : k < (valB vl).length := by rw [valB_len]; exact h
  unfold basTo
  rw [List.take_add_one, List.getElem?_eq_getElem hl, ← valB_getD, List.getD_eq_getElem?_getD, List.getElem?_eq_getElem hl]
  rfl
theorem basTo_all (vl : List (Int × Int)) : basTo vl vl.length = valB vl := by
  unfold basTo; rw [← valB_len vl, List.take_length]

/-- append of one number at a step of a region that draws its order, of however long a list -/
theorem step_pushL {B : Nat} {W w : World} (hw : Below B W w) (hB : B ≤ w.heap.size) {ops : Array Oper} {o : Oper} {a : Act} {K : Act → World → Prop} {Q : Exit → Act → World → Prop} {E : Prop} (hgd : o.guard = none) (s x : Operand)
    (ho : o.op = .call { callee := .builtin .append, args := #[s, x], argTypes := #[23, 23] })
    (xs : List Int) (ad : Option Addr) (cap : Nat) (y : Int) (hs : a.eval s = .slice ad xs.length cap) (hown : Own B w ad cap xs)
    (hx : a.eval x = .slice (some ⟨w.heap.size, 0, none⟩) 1 1)
    (hlen : xs.length + 1 ≤ 17592186044416)
    (h : ∀ (u' : Later B W) (ad' : Option Addr) (cap' : Nat), Own B u'.val ad' cap' (xs ++ [y]) → K (a.put o.dst (.slice ad' (xs ++ [y]).length cap')) u'.val) :
    if Region.wanted o (yielded ops a.tmps) = true then Oper.wp Try.prog o a (w.alloc (.cells #[.int .i64 y] 3)) K Q else E := by
  obtain ⟨i0, hi, hz0, hz1, hz2⟩ := info_parts info_int
  refine step_append_lies _ hgd s x 23 ho B 3 i0 (.int .i64 0) 1 8 Try.underlying23 hi hz0 hz1 hz2 rfl (by decide) _ xs.length _ hs (hown.alloc _) ⟨w.heap.size, 0, none⟩ 1 1 [.int .i64 y] hx rfl ?_ ?_ (by decide) (by unfold maxLen; omega) (by omega) (by simp; omega) _ rfl ?_
  · intro j v hj
    have hj0 : j = 0 := by
      have := (List.getElem?_eq_some_iff.1 hj).1
      simp at this
      omega
    subst hj0
    have e : (⟨w.heap.size, 0, none⟩ : Addr).add 0 = ⟨w.heap.size, 0, none⟩ := by unfold Addr.add; split <;> simp_all
    rw [e]
    simp at hj
    subst hj
    exact cell_one_new w (.int .i64 y) 3 0 _ rfl
  · intro v hv
    simp at hv
    subst hv
    rfl
  · intro g cap' w' h2 h3 _ _
    have hO : Own B w' (some ⟨g, 0, none⟩) cap' (xs ++ [y]) := by
      show w'.ownsRow B 3 1 (.slice (some ⟨g, 0, none⟩) (xs ++ [y]).length cap') (xs ++ [y]).length _
      rw [List.length_append]
      simpa using h2
    have := h ⟨w', own_below (hw.alloc hB _) (by simp; omega) (hown.alloc _) h3, by have := h3.size; simp at this; omega⟩ (some ⟨g, 0, none⟩) cap' hO
    rw [List.length_append] at this
    exact this

set_option maxRecDepth 100000 in
set_option maxHeartbeats 8000000 in
theorem c_refUnder {B : Nat} {W : World} (u : Later B W) (n : Int) (vl : List (Int × Int)) (a : Option Addr) (cap : Nat) (h : EdgesAt B W a vl) (hlen : vl.length ≤ 17592186044416) :
    Calls Try.prog 15 #[.int .i64 n, .slice a vl.length cap] u.val (RetP B W (fun v w => ∃ ad cp, v = .agg #[.int .i64 n, .slice ad (valB vl).length cp] ∧ IntsAt w.heap.size w ad (valB vl))) := by
  have HR : Hid (RowL ((u.val.alloc (.cells #[.int .i64 0, .slice none 0 0] 29)).alloc (.cells #[.int .i64 n, .slice none 0 0] 29)) u.val.heap.size 29 [.int .i64 0, .slice none 0 0]) := Lib.hid ((RowL.new _ _ _).keep ((Below.refl _ _).alloc (Nat.le_refl _) _))
  have HB : Hid (RowL ((u.val.alloc (.cells #[.int .i64 0, .slice none 0 0] 29)).alloc (.cells #[.int .i64 n, .slice none 0 0] 29)) (u.val.heap.size + 1) 29 [.int .i64 n, .slice none 0 0]) := Lib.hid (by
    have h2 : (u.val.alloc (.cells #[.int .i64 0, .slice none 0 0] 29)).heap.size = u.val.heap.size + 1 := by simp
    have h3 := RowL.new (u.val.alloc (.cells #[.int .i64 0, .slice none 0 0] 29)) 29 [.int .i64 n, .slice none 0 0]
    rwa [h2] at h3)
  have HZ : Hid (∃ w : Later B W, w.val = ((u.val.alloc (.cells #[.int .i64 0, .slice none 0 0] 29)).alloc (.cells #[.int .i64 n, .slice none 0 0] 29))) := Lib.hid ⟨(u.alloc _).alloc _, rfl⟩
  have HS : Hid (((u.val.alloc (.cells #[.int .i64 0, .slice none 0 0] 29)).alloc (.cells #[.int .i64 n, .slice none 0 0] 29)).heap.size = u.val.heap.size + 2) := Lib.hid (by simp)
  have hus := u.size
  have HE := Lib.hid h
  clear h
  go_enter Try.func15, Try.ntmps15
  go_upto_region 2 with fail
  generalize ((u.val.alloc (.cells #[.int .i64 0, .slice none 0 0] 29)).alloc (.cells #[.int .i64 n, .slice none 0 0] 29)) = Y at *
  generalize u.val.heap.size = g at *
  clear u
  obtain ⟨y, rfl⟩ := HZ.out
  have hgy : g < y.val.heap.size := by have := HS.out; omega
  go_wp2
  go_loopw [6] (fun i wr => ∃ (k : Nat) (ad : Option Addr) (cp : Nat) (v : Later B W), k ≤ vl.length ∧ i = .int .i64 k ∧ wr = v.val ∧ Hid (RowL v.val g 29 [.int .i64 0, .slice none 0 0]) ∧ Hid (RowL v.val (g + 1) 29 [.int .i64 n, .slice ad (basTo vl k).length cp]) ∧ Hid (Own (g + 2) v.val ad cp (basTo vl k))) (fun i _ => vl.length - (intOf i).toNat)
  case atStart => exact ⟨0, none, 0, y, by omega, rfl, rfl, HR, HB, Own.nil _ _⟩
  case round =>
    clear y HZ HR HB HS hgy
    obtain ⟨k, ad, cp, v, hk, rfl, rfl, HR, HB, HO⟩ := hrel
    by_cases hlt : k < vl.length
    · obtain ⟨be, off, rfl, hbe, hce⟩ := HE.out.at hlt
      have hbl : (basTo vl k).length + 1 ≤ 17592186044416 := by rw [basTo_len hk]; omega
      have HN := Lib.hid (basTo_step hlt)
      generalize basTo vl k = T at *
      have hx0 := fun w : Later B W => (hce w k hlt).1
      clear hce
      generalize (vl.getD k (0, 0)).1 = x at *
      have d0 : v.val.drew.cell? ⟨be, off + k * 2, none⟩ = some (.int .i64 x) := hx0 v.drew
      have d1 : v.val.drew.cell? ⟨g + 1, 1, none⟩ = some (.slice ad T.length cp) := (HB.out.keep ((Below.refl _ _).drew)).cell rfl
      have d2 : ∀ o : Obj, (v.val.drew.alloc o).cell? ⟨g + 1, 1, none⟩ = some (.slice ad T.length cp) := fun o => (HB.out.keep (((Below.refl _ _).drew).alloc (Nat.le_refl _) o)).cell rfl
      have d5 : ∀ o : Obj, (v.val.alloc o).cell? ⟨g + 1, 1, none⟩ = some (.slice ad T.length cp) := fun o => (HB.out.keep ((Below.refl _ _).alloc (Nat.le_refl _) o)).cell rfl
      have HO2 : Hid (Own (g + 2) v.val.drew ad cp T) := Lib.hid (HO.out.keep ((Below.refl _ _).drew))
      have hgs : g + 2 ≤ v.val.drew.heap.size := HB.out.lt
      have HU : Hid (∀ w : Later (g + 2) v.val.drew, RowL w.val (g + 1) 29 [.int .i64 n, .slice ad T.length cp] ∧ RowL w.val g 29 [.int .i64 0, .slice none 0 0]) := Lib.hid (fun w => ⟨by
        show w.val.heap[g + 1]? = _
        rw [w.below.block (g + 1) (by omega)]; exact HB.out, by
        show w.val.heap[g]? = _
        rw [w.below.block g (by omega)]; exact HR.out⟩)
      have d3 : ∀ w : Later (g + 2) v.val.drew, w.val.cell? ⟨g + 1, 1, none⟩ = some (.slice ad T.length cp) := fun w => (HU.out w).1.cell rfl
      have d4 : ∀ w : Later (g + 2) v.val.drew, w.val.frozen? ⟨g + 1, 1, none⟩ = false := fun w => (HU.out w).1.fz 1
      have HVv : Hid (∀ w : Later (g + 2) v.val.drew, ∃ w' : Later B W, w'.val = w.val) := Lib.hid (fun w => ⟨v.drew.to w.val (w.below.mono (by omega)), rfl⟩)
      clear hx0
      go_upto_region 5 with fail
      go_region_law (first | ((refine step_pushL (B := g + 2) (W := v.val.drew) (w := v.val.drew) (Below.refl _ _) hgs (by rfl) _ _ (by rfl) T ad cp x (by rfl) HO2.out (by rfl) hbl ?_; intro u2 ad3 cp3 hown)))
      all_goals
        have HU2 := Lib.hid (HU.out u2)
        have HVu := Lib.hid (HVv.out u2)
        go_wp2
        go_roundw
        case rel =>
          obtain ⟨w, hw⟩ := later_set HVu.out (g := g + 1) (i := 1) (by omega) (.slice ad3 (T ++ [x]).length cp3)
          refine ⟨k+1, ad3, cp3, w, by omega, by go_num, ?_, ?_, ?_, ?_⟩
          · rw [hw]; simp
          · rw [hw]
            exact Lib.hid (by
              show (World.setCell _ _ _).heap[g]? = _
              rw [Below.heap_setCell _ _ _ _ (by show g ≠ g + 1; omega)]; exact HU2.out.2)
          · rw [HN.out, hw]; exact Lib.hid (HU2.out.1.set 1 _)
          · rw [HN.out, hw]; exact Lib.hid (hown.set (by omega) _)
        case measure => simp [intOf]; omega
    · have hke : k = vl.length := by omega
      subst hke
      rw [basTo_all] at HB HO
      have c1 : v.val.cell? ⟨g + 1, 1, none⟩ = some (.slice ad (valB vl).length cp) := HB.out.cell rfl
      have c0 : v.val.cell? ⟨g + 1, 0, none⟩ = some (.int .i64 n) := HB.out.cell rfl
      have hgv : g < v.val.heap.size := HR.out.lt
      have f0 : ∀ (w : Later v.val.heap.size v.val), w.val.cell? ⟨g, 0, none⟩ = some (.int .i64 0) := fun w => (HR.out.keep_at w.below hgv).cell rfl
      have z0 : ∀ (w : Later v.val.heap.size v.val), w.val.frozen? ⟨g, 0, none⟩ = false := fun w => (HR.out.keep_at w.below hgv).fz 0
      have f1 : ∀ (w : Later v.val.heap.size v.val) (x0 : Value), (w.val.setCell ⟨g, 0, none⟩ x0).cell? ⟨g, 1, none⟩ = some (.slice none 0 0) := fun w x0 => ((HR.out.keep_at w.below hgv).set 0 x0).cell rfl
      have z1 : ∀ (w : Later v.val.heap.size v.val) (x0 : Value), (w.val.setCell ⟨g, 0, none⟩ x0).frozen? ⟨g, 1, none⟩ = false := fun w x0 => ((HR.out.keep_at w.below hgv).set 0 x0).fz 1
      have z0v := z0 (Later.self v.val)
      have f0v := f0 (Later.self v.val)
      have z1v := z1 (Later.self v.val)
      have f1v := f1 (Later.self v.val)
      dsimp only [Later.self] at z0v f0v z1v f1v
      have HI : Hid (IntsAt v.val.heap.size v.val ad (valB vl)) := Lib.hid HO.out.reads
      have HX : Hid (∃ w : Later B W, w.val = v.val) := Lib.hid ⟨v, rfl⟩
      clear HB
      go_wp2
      refine bodyPost_ret (results_cell_row rfl _ _ g 29 #[.int .i64 n, .slice ad (valB vl).length cp] (0, 0) _ rfl ((HR.out.set 0 _).set 1 _) Try.underlying29 rfl (by kernel_rfl)) rfl ?_
      refine RetP.of (later_set (later_set HX.out (by omega) _) (by omega) _) ⟨ad, cp, rfl, ?_⟩
      intro hne
      obtain ⟨b, off, e, hb, hc⟩ := HI.out hne
      have hbg : b ≠ g := by
        rintro rfl
        subst e
        have := (World.ownsRow.lt HO.out b rfl).1
        omega
      refine ⟨b, off, e, by simpa using hb, fun k hk => ?_⟩
      rw [World.cell?_setCell_far _ _ _ _ (Ne.symm hbg), World.cell?_setCell_far _ _ _ _ (Ne.symm hbg)]
      exact hc k hk

/-- are the numbers of the first ones in bounds? -/
def rngTo (vl : List (Int × Int)) (k : Nat) : Prop := ∀ i, i < k → -1000 ≤ (vl.getD i (0, 0)).2 ∧ (vl.getD i (0, 0)).2 ≤ 1000
instance (vl k) : Decidable (rngTo vl k) := by unfold rngTo; infer_instance
theorem rngTo_step {vl : List (Int × Int)} {k : Nat} (h : rngTo vl k) (h1 : -1000 ≤ (vl.getD k (0, 0)).2) (h2 : (vl.getD k (0, 0)).2 ≤ 1000) : rngTo vl (k + 1) := by
  intro i hi
  by_cases e : i = k
  · subst e; exact ⟨h1, h2⟩
  · exact h i (by omega)
def undE (vl : List (Int × Int)) (me : Int) : Int := if me = 0 then (if rngTo vl vl.length then 0 else 1) else me

set_option maxRecDepth 100000 in
set_option maxHeartbeats 20000000 in
theorem c_under {B : Nat} {W : World} (u : Later B W) (n : Int) (vl : List (Int × Int)) (a : Option Addr) (cap : Nat) (h : EdgesAt B W a vl) (hlen : vl.length ≤ 4611686018427387904) (hlen2 : vl.length ≤ 17592186044416) (me : Int) (hm : MatIs n (valB vl) me) :
    Calls Try.prog 23 #[.int .i64 n, .slice a vl.length cap] u.val (RetP B W (fun v w => ∃ ad cp, v = .tuple #[.agg #[.int .i64 n, .slice ad (valB vl).length cp], .int .i64 (undE vl me)] ∧ IntsAt w.heap.size w ad (valB vl))) := by
  have HR : Hid (RowL ((u.val.alloc (.cells #[.int .i64 0, .slice none 0 0] 29)).alloc (.cells #[.int .i64 n, .slice none 0 0] 29)) u.val.heap.size 29 [.int .i64 0, .slice none 0 0]) := Lib.hid ((RowL.new _ _ _).keep ((Below.refl _ _).alloc (Nat.le_refl _) _))
  have HB : Hid (RowL ((u.val.alloc (.cells #[.int .i64 0, .slice none 0 0] 29)).alloc (.cells #[.int .i64 n, .slice none 0 0] 29)) (u.val.heap.size + 1) 29 [.int .i64 n, .slice none 0 0]) := Lib.hid (by
    have h2 : (u.val.alloc (.cells #[.int .i64 0, .slice none 0 0] 29)).heap.size = u.val.heap.size + 1 := by simp
    have h3 := RowL.new (u.val.alloc (.cells #[.int .i64 0, .slice none 0 0] 29)) 29 [.int .i64 n, .slice none 0 0]
    rwa [h2] at h3)
  have HZ : Hid (∃ w : Later B W, w.val = ((u.val.alloc (.cells #[.int .i64 0, .slice none 0 0] 29)).alloc (.cells #[.int .i64 n, .slice none 0 0] 29))) := Lib.hid ⟨(u.alloc _).alloc _, rfl⟩
  have HS : Hid (((u.val.alloc (.cells #[.int .i64 0, .slice none 0 0] 29)).alloc (.cells #[.int .i64 n, .slice none 0 0] 29)).heap.size = u.val.heap.size + 2) := Lib.hid (by simp)
  have hus := u.size
  have HE := Lib.hid h
  have HM := Lib.hid hm
  have HU1 : Hid (me ≠ 0 → undE vl me = me) := Lib.hid (fun c => by unfold undE; rw [if_neg c])
  have HU2 : Hid (me = 0 → rngTo vl vl.length → undE vl me = 0) := Lib.hid (fun c d => by unfold undE; rw [if_pos c, if_pos d])
  have HU3 : Hid (me = 0 → ¬ rngTo vl vl.length → undE vl me = 1) := Lib.hid (fun c d => by unfold undE; rw [if_pos c, if_neg d])
  clear h hm
  generalize undE vl me = ue at *
  go_enter Try.func23, Try.ntmps23
  go_upto_region 2 with fail
  generalize ((u.val.alloc (.cells #[.int .i64 0, .slice none 0 0] 29)).alloc (.cells #[.int .i64 n, .slice none 0 0] 29)) = Y at *
  generalize u.val.heap.size = g at *
  clear u
  obtain ⟨y, rfl⟩ := HZ.out
  have hgy : g < y.val.heap.size := by have := HS.out; omega
  go_wp2
  go_loopw [16] (fun i wr => ∃ (k : Nat) (ad : Option Addr) (cp : Nat) (v : Later B W), k ≤ vl.length ∧ i = .int .i64 k ∧ wr = v.val ∧ Hid (RowL v.val g 29 [.int .i64 0, .slice none 0 0]) ∧ Hid (RowL v.val (g + 1) 29 [.int .i64 n, .slice ad (basTo vl k).length cp]) ∧ Hid (Own (g + 2) v.val ad cp (basTo vl k))) (fun i _ => vl.length - (intOf i).toNat)
  case atStart => exact ⟨0, none, 0, y, by omega, rfl, rfl, HR, HB, Own.nil _ _⟩
  case round =>
    clear y HZ HR HB HS hgy
    obtain ⟨k, ad, cp, v, hk, rfl, rfl, HR, HB, HO⟩ := hrel
    by_cases hlt : k < vl.length
    · obtain ⟨be, off, rfl, hbe, hce⟩ := HE.out.at hlt
      have hbl : (basTo vl k).length + 1 ≤ 17592186044416 := by rw [basTo_len hk]; omega
      have HN := Lib.hid (basTo_step hlt)
      generalize basTo vl k = T at *
      have x0 := (hce v k hlt).1
      have x1 := (hce v k hlt).2
      clear hce
      generalize (vl.getD k (0, 0)).1 = x at *
      generalize (vl.getD k (0, 0)).2 = z at *
      have T1 : Two (v.val.alloc (.cells #[.int .i64 x, .int .i64 z] 36)) v.val.heap.size 36 (.int .i64 x) (.int .i64 z) := Two.new _ _ _ _
      have y0 := T1.c0
      have d1 : (v.val.alloc (.cells #[.int .i64 x, .int .i64 z] 36)).cell? ⟨g + 1, 1, none⟩ = some (.slice ad T.length cp) := (HB.out.keep ((Below.refl _ _).alloc (Nat.le_refl _) _)).cell rfl
      have HO2 : Hid (Own (g + 2) (v.val.alloc (.cells #[.int .i64 x, .int .i64 z] 36)) ad cp T) := Lib.hid (HO.out.alloc _)
      have hgs : g + 2 ≤ (v.val.alloc (.cells #[.int .i64 x, .int .i64 z] 36)).heap.size := by have : g + 1 < v.val.heap.size := HB.out.lt; simp; omega
      have HU : Hid (∀ w : Later (g + 2) (v.val.alloc (.cells #[.int .i64 x, .int .i64 z] 36)), RowL w.val (g + 1) 29 [.int .i64 n, .slice ad T.length cp] ∧ RowL w.val g 29 [.int .i64 0, .slice none 0 0]) := Lib.hid (fun w => ⟨by
        show w.val.heap[g + 1]? = _
        rw [w.below.block (g + 1) (by omega)]; exact HB.out.keep ((Below.refl _ _).alloc (Nat.le_refl _) _), by
        show w.val.heap[g]? = _
        rw [w.below.block g (by omega)]; exact HR.out.keep ((Below.refl _ _).alloc (Nat.le_refl _) _)⟩)
      have d3 : ∀ w : Later (g + 2) (v.val.alloc (.cells #[.int .i64 x, .int .i64 z] 36)), w.val.cell? ⟨g + 1, 1, none⟩ = some (.slice ad T.length cp) := fun w => (HU.out w).1.cell rfl
      have d4 : ∀ w : Later (g + 2) (v.val.alloc (.cells #[.int .i64 x, .int .i64 z] 36)), w.val.frozen? ⟨g + 1, 1, none⟩ = false := fun w => (HU.out w).1.fz 1
      have HVv : Hid (∀ w : Later (g + 2) (v.val.alloc (.cells #[.int .i64 x, .int .i64 z] 36)), ∃ w' : Later B W, w'.val = w.val) := Lib.hid (fun w => ⟨(v.alloc _).to w.val (w.below.mono (by omega)), rfl⟩)
      clear T1
      go_upto_region 5 with fail
      generalize (v.val.alloc (.cells #[.int .i64 x, .int .i64 z] 36)) = V1 at *
      go_wp2_with (first | (at_builtin; refine wpList_push (B := g + 2) (W := V1) (w := V1) (Below.refl _ _) hgs rfl _ _ rfl T ad cp x rfl HO2.out rfl hbl ?_; intro u2 ad3 cp3 hown))
      have HU2' := Lib.hid (HU.out u2)
      have HVu := Lib.hid (HVv.out u2)
      go_roundw
      case rel =>
        obtain ⟨w, hw⟩ := later_set HVu.out (g := g + 1) (i := 1) (by omega) (.slice ad3 (T ++ [x]).length cp3)
        refine ⟨k+1, ad3, cp3, w, by omega, by go_num, ?_, ?_, ?_, ?_⟩
        · rw [hw]; simp
        · rw [hw]
          exact Lib.hid (by
            show (World.setCell _ _ _).heap[g]? = _
            rw [Below.heap_setCell _ _ _ _ (by show g ≠ g + 1; omega)]; exact HU2'.out.2)
        · rw [HN.out, hw]; exact Lib.hid (HU2'.out.1.set 1 _)
        · rw [HN.out, hw]; exact Lib.hid (hown.set (by omega) _)
      case measure => simp [intOf]; omega
    · have hke : k = vl.length := by omega
      subst hke
      rw [basTo_all] at HB HO
      have KC : Hid (Calls Try.prog 32 #[.agg #[.int .i64 n, .slice ad (valB vl).length cp]] v.val (Ret v.val.heap.size v.val (.int .i64 me))) := Lib.hid (c_axCheck (Later.self v.val) n (valB vl) ad cp me HO.out.reads (by rw [valB_len]; exact hlen) HM.out)
      have hgv : g < v.val.heap.size := HR.out.lt
      have hgv1 : g + 1 < v.val.heap.size := HB.out.lt
      have c1 : ∀ w : Later v.val.heap.size v.val, w.val.cell? ⟨g + 1, 1, none⟩ = some (.slice ad (valB vl).length cp) := fun w => (HB.out.keep w.below).cell rfl
      have c0 : ∀ w : Later v.val.heap.size v.val, w.val.cell? ⟨g + 1, 0, none⟩ = some (.int .i64 n) := fun w => (HB.out.keep w.below).cell rfl
      have c0v : v.val.cell? ⟨g + 1, 0, none⟩ = some (.int .i64 n) := c0 (Later.self v.val)
      have c1v : v.val.cell? ⟨g + 1, 1, none⟩ = some (.slice ad (valB vl).length cp) := c1 (Later.self v.val)
      have f0 : ∀ (w : Later v.val.heap.size v.val), w.val.cell? ⟨g, 0, none⟩ = some (.int .i64 0) := fun w => (HR.out.keep_at w.below hgv).cell rfl
      have z0 : ∀ (w : Later v.val.heap.size v.val), w.val.frozen? ⟨g, 0, none⟩ = false := fun w => (HR.out.keep_at w.below hgv).fz 0
      have f1 : ∀ (w : Later v.val.heap.size v.val) (x0 : Value), (w.val.setCell ⟨g, 0, none⟩ x0).cell? ⟨g, 1, none⟩ = some (.slice none 0 0) := fun w x0 => ((HR.out.keep_at w.below hgv).set 0 x0).cell rfl
      have z1 : ∀ (w : Later v.val.heap.size v.val) (x0 : Value), (w.val.setCell ⟨g, 0, none⟩ x0).frozen? ⟨g, 1, none⟩ = false := fun w x0 => ((HR.out.keep_at w.below hgv).set 0 x0).fz 1
      have HX : Hid (∀ w : Later v.val.heap.size v.val, ∃ w' : Later B W, w'.val = w.val) := Lib.hid (fun w => ⟨v.up w, rfl⟩)
      have HFin : Hid (∀ w : Later v.val.heap.size v.val, IntsAt ((w.val.setCell ⟨g, 0, none⟩ (.int .i64 n)).setCell ⟨g, 1, none⟩ (.slice ad (valB vl).length cp)).heap.size ((w.val.setCell ⟨g, 0, none⟩ (.int .i64 n)).setCell ⟨g, 1, none⟩ (.slice ad (valB vl).length cp)) ad (valB vl)) := Lib.hid (fun w => (((HO.out.keep w.below).set (g := g) (i := 0) (by omega) (.int .i64 n)).set (g := g) (i := 1) (by omega) (.slice ad (valB vl).length cp)).reads)
      have HRw : Hid (∀ w : Later v.val.heap.size v.val, RowL ((w.val.setCell ⟨g, 0, none⟩ (.int .i64 n)).setCell ⟨g, 1, none⟩ (.slice ad (valB vl).length cp)) g 29 [.int .i64 n, .slice ad (valB vl).length cp]) := Lib.hid (fun w => ((HR.out.keep w.below).set 0 _).set 1 _)
      clear HO HB HR HM
      by_cases h0 : me = 0
      case neg =>
        have hu := Lib.hid (HU1.out h0)
        have d0 : (me != 0) = true := by rw [bne_iff_ne]; exact h0
        clear HU1 HU2 HU3 h0
        go_wp2_with (first | (go_at_call 32; (with_reducible refine (KC.out).mono ?_); rintro e _ ⟨rfl, w1, rfl⟩))
        refine bodyPost_ret (results_row (vs := [.int .i64 n, .slice ad (valB vl).length cp]) rfl _ _ g rfl (HRw.out w1) Try.underlying29 (by kernel_rfl)) rfl ?_
        exact RetP.of (later_set (later_set (HX.out w1) (by omega) _) (by omega) _) ⟨ad, cp, by rw [hu.out]; rfl, HFin.out w1⟩
      subst h0
      have hu2 := Lib.hid (HU2.out rfl)
      have hu3 := Lib.hid (HU3.out rfl)
      clear HU1 HU2 HU3
      go_wp2_with (first | (go_at_call 32; (with_reducible refine (KC.out).mono ?_); rintro e _ ⟨rfl, w1, rfl⟩))
      go_loopw [36] (fun i wr => ∃ (j : Nat) (w : Later v.val.heap.size v.val), j ≤ vl.length ∧ i = .int .i64 j ∧ wr = w.val ∧ Hid (rngTo vl j)) (fun i _ => vl.length - (intOf i).toNat)
      case atStart => exact ⟨0, w1, by omega, rfl, rfl, Lib.hid (fun i hi => by omega)⟩
      case round =>
        clear w1
        obtain ⟨j, w, hj, rfl, rfl, hf⟩ := hrel
        by_cases hlt2 : j < vl.length
        · obtain ⟨be, off, rfl, hbe, hce⟩ := HE.out.at hlt2
          have x0 := (hce (v.up w) j hlt2).1
          have x1 := (hce (v.up w) j hlt2).2
          have HSt := Lib.hid (@rngTo_step vl j hf.out)
          have HNo : Hid (¬ (-1000 ≤ (vl.getD j (0, 0)).2 ∧ (vl.getD j (0, 0)).2 ≤ 1000) → ue = 1) := Lib.hid (fun c => hu3.out (fun d => c (d j hlt2)))
          clear hce hf
          dsimp only [Later.up, Later.to] at x0 x1
          generalize (vl.getD j (0, 0)).1 = x at *
          generalize (vl.getD j (0, 0)).2 = z at *
          have T1 : Two (w.val.alloc (.cells #[.int .i64 x, .int .i64 z] 36)) w.val.heap.size 36 (.int .i64 x) (.int .i64 z) := Two.new _ _ _ _
          have y1 := T1.c1
          obtain ⟨w2, hw2⟩ : ∃ w2 : Later v.val.heap.size v.val, w2.val = (w.val.alloc (.cells #[.int .i64 x, .int .i64 z] 36)) := ⟨w.alloc _, rfl⟩
          have e0 := c0 w2
          have e1 := c1 w2
          have e2 := f0 w2
          have e3 := z0 w2
          have e4 := f1 w2 (.int .i64 n)
          have e5 := z1 w2 (.int .i64 n)
          rw [hw2] at e0 e1 e2 e3 e4 e5
          clear T1
          rcases ilt z (-1000) with ⟨g1, p1⟩ | ⟨g1, p1⟩
          · have hu := Lib.hid (HNo.out (by omega))
            clear HSt HNo g1
            go_wp2
            rw [← hw2]
            refine bodyPost_ret (results_row (vs := [.int .i64 n, .slice ad (valB vl).length cp]) rfl _ _ g rfl (HRw.out w2) Try.underlying29 (by kernel_rfl)) rfl ?_
            exact RetP.of (later_set (later_set (HX.out w2) (by omega) _) (by omega) _) ⟨ad, cp, by rw [hu.out]; rfl, HFin.out w2⟩
          · rcases ilt 1000 z with ⟨g2, p2⟩ | ⟨g2, p2⟩
            · have hu := Lib.hid (HNo.out (by omega))
              clear HSt HNo g1 g2
              go_wp2
              rw [← hw2]
              refine bodyPost_ret (results_row (vs := [.int .i64 n, .slice ad (valB vl).length cp]) rfl _ _ g rfl (HRw.out w2) Try.underlying29 (by kernel_rfl)) rfl ?_
              exact RetP.of (later_set (later_set (HX.out w2) (by omega) _) (by omega) _) ⟨ad, cp, by rw [hu.out]; rfl, HFin.out w2⟩
            · have HN := Lib.hid (HSt.out (by omega) (by omega))
              clear HSt HNo g1 g2
              go_wp2
              go_roundw
              case rel => exact ⟨j+1, w2, by omega, by go_num, hw2.symm, HN⟩
              case measure => simp [intOf]; omega
        · have hje : j = vl.length := by omega
          subst hje
          have hu := Lib.hid (hu2.out hf.out)
          have e0 := c0 w
          have e1 := c1 w
          have e2 := f0 w
          have e3 := z0 w
          have e4 := f1 w (.int .i64 n)
          have e5 := z1 w (.int .i64 n)
          clear hf hu2 hu3
          go_wp2
          refine bodyPost_ret (results_row (vs := [.int .i64 n, .slice ad (valB vl).length cp]) rfl _ _ g rfl (HRw.out w) Try.underlying29 (by kernel_rfl)) rfl ?_
          exact RetP.of (later_set (later_set (HX.out w) (by omega) _) (by omega) _) ⟨ad, cp, by rw [hu.out]; rfl, HFin.out w⟩

/-- the number of a basis; 0: it is none -/
def valI (vl : List (Int × Int)) (b : Int) : Int := if b ∈ valB vl then (vl.getD ((valB vl).idxOf b) (0, 0)).2 else 0
theorem rising_idx {l : List Int} (hs : rising l) {p : Nat} (hp : p < l.length) {v : Int} (he : l.getD p 0 = v) : l.idxOf v = p := by
  have hm : v ∈ l := bs_found hp he
  have hlt : l.idxOf v < l.length := List.idxOf_lt_length_of_mem hm
  have hg : l[l.idxOf v] = v := List.getElem_idxOf hlt
  have hg2 : l.getD (l.idxOf v) 0 = v := by simp [hlt, hg]
  rcases Nat.lt_trichotomy (l.idxOf v) p with h | h | h
  · have := hs _ _ h hp; omega
  · exact h
  · have := hs _ _ h hlt; omega
theorem valI_at {vl : List (Int × Int)} (hs : rising (valB vl)) {p : Nat} (hp : p < vl.length) : valI vl (vl.getD p (0, 0)).1 = (vl.getD p (0, 0)).2 := by
  have hp2 : p < (valB vl).length := by rw [valB_len]; exact hp
  have he : (valB vl).getD p 0 = (vl.getD p (0, 0)).1 := valB_getD vl p
  unfold valI
  rw [if_pos (bs_found hp2 he), rising_idx hs hp2 he]
/-- sets as bases -/
def okB (vl : List (Int × Int)) : Prop := ∀ i, i < vl.length → 0 ≤ (vl.getD i (0, 0)).1 ∧ (vl.getD i (0, 0)).1 ≤ 255

set_option maxRecDepth 100000 in
set_option maxHeartbeats 1000000 in
theorem c_ofTell {B : Nat} {W : World} (u : Later B W) (x z v : Int) (h0 : 0 ≤ x) (h1 : x ≤ 255) (h2 : 0 ≤ v) (h3 : v ≤ 255) :
    Calls Try.prog 34 #[.agg #[.int .i64 x, .int .i64 z], .int .i64 v] u.val (Ret B W (.int .i64 (x - v))) := by
  have T1 : Two (u.val.alloc (.cells #[.int .i64 x, .int .i64 z] 36)) u.val.heap.size 36 (.int .i64 x) (.int .i64 z) := Two.new _ _ _ _
  have c0 := T1.c0
  have w1 := IntWalk.i64_in (x - v) (by omega)
  clear T1
  go_enter Try.func34, Try.ntmps34
  go_wp2
  go_ret
  exact Ret.mk (u.alloc (.cells #[.int .i64 x, .int .i64 z] 36)) rfl

/-- what the search says: a place, and whether it is there -/
def bvPost (vl : List (Int × Int)) (v : Int) (x : Value) (_ : World) : Prop := ∃ p : Nat, x = .tuple #[.int .i64 (p : Int), .bool (decide (v ∈ valB vl))] ∧ (v ∈ valB vl → p < vl.length ∧ (vl.getD p (0, 0)).1 = v)

set_option maxRecDepth 100000 in
set_option maxHeartbeats 4000000 in
theorem c_bsVal {B : Nat} {W : World} (u : Later B W) (vl : List (Int × Int)) (v : Int) (a : Option Addr) (cap : Nat) (h : EdgesAt B W a vl) (hlen : vl.length ≤ 4611686018427387904) (hs : rising (valB vl)) (hb : okB vl) (hv0 : 0 ≤ v) (hv1 : v ≤ 255) :
    Calls Try.prog 33 #[.slice a vl.length cap, .int .i64 v, .func (.func 34) #[] #[]] u.val (RetP B W (bvPost vl v)) := by
  have HI := Lib.hid h; clear h
  have HS := Lib.hid hs; clear hs
  have HB := Lib.hid hb; clear hb
  have hp1 : ∀ (args : Array Value) (w : World), (callFunc 34 args).run Try.prog w = .ok (.enter 34 args) w := fun args w => by kernel_rfl
  have HD : Hid (∀ i, i < vl.length → (valB vl).getD i 0 = (vl.getD i (0, 0)).1) := Lib.hid (fun i _ => valB_getD vl i)
  have HL : Hid ((valB vl).length = vl.length) := Lib.hid (valB_len vl)
  go_enter Try.func33, Try.ntmps33
  go_wp2
  go_loopw [9, 10] (fun i j wr => ∃ (p q : Nat) (u : Later B W), p ≤ q ∧ q ≤ vl.length ∧ i = .int .i64 p ∧ j = .int .i64 q ∧ wr = u.val ∧ Hid (∀ a, a < p → (valB vl).getD a 0 < v) ∧ Hid (∀ a, q ≤ a → a < vl.length → v ≤ (valB vl).getD a 0)) (fun i j _ => (intOf j - intOf i).toNat)
  case atStart => exact ⟨0, vl.length, u, by omega, by omega, rfl, rfl, rfl, by intro i hi; omega, by intro i hi; omega⟩
  case round =>
    obtain ⟨p, q, u, hpq, hq, rfl, rfl, rfl, H1, H2⟩ := hrel
    by_cases hlt : p < q
    · obtain ⟨b, off, rfl, hb, hc⟩ := HI.out.at (k := p) (by omega)
      have hm : (p + q) / 2 < vl.length := by omega
      have c0 := (hc u ((p + q) / 2) hm).1
      have c1 := (hc u ((p + q) / 2) hm).2
      have hbd := HB.out _ hm
      have H3 : Hid ((vl.getD ((p + q) / 2) (0, 0)).1 < v → ∀ a, a < (p + q) / 2 + 1 → (valB vl).getD a 0 < v) := fun hx a ha => by
        rw [← HD.out _ hm] at hx
        by_cases e : a = (p + q) / 2
        · rw [e]; exact hx
        · have := HS.out a ((p + q) / 2) (by omega) (by rw [HL.out]; exact hm); omega
      have H4 : Hid (v ≤ (vl.getD ((p + q) / 2) (0, 0)).1 → ∀ a, (p + q) / 2 ≤ a → a < vl.length → v ≤ (valB vl).getD a 0) := fun hx a ha hal => by
        rw [← HD.out _ hm] at hx
        by_cases e : a = (p + q) / 2
        · rw [e]; exact hx
        · have := HS.out ((p + q) / 2) a (by omega) (by rw [HL.out]; exact hal); omega
      generalize (vl.getD ((p + q) / 2) (0, 0)).1 = x at *
      generalize (vl.getD ((p + q) / 2) (0, 0)).2 = z at *
      clear hc
      have H := Lib.hid (c_ofTell u x z v hbd.1 hbd.2 hv0 hv1)
      rcases ilt (x - v) 0 with ⟨g1, d1⟩ | ⟨g1, d1⟩
      · have hx3 := H3.out (by omega)
        have H5 := Lib.hid hx3
        clear H3 H4 hx3
        go_wp2_with (first | (refine (H.out).mono ?_; rintro e _ ⟨rfl, u1, rfl⟩))
        go_roundw
        case rel => exact ⟨(p + q) / 2 + 1, q, u1, by omega, by omega, by go_num, rfl, rfl, H5, H2⟩
        case measure => simp [intOf]; omega
      · have hx4 := H4.out (by omega)
        have H5 := Lib.hid hx4
        clear H3 H4 hx4
        go_wp2_with (first | (refine (H.out).mono ?_; rintro e _ ⟨rfl, u1, rfl⟩))
        go_roundw
        case rel => exact ⟨p, (p + q) / 2, u1, by omega, by omega, rfl, by go_num, rfl, H1, H5⟩
        case measure => simp [intOf]; omega
    · have e : p = q := by omega
      subst e
      rcases nlt p vl.length with ⟨g1, d1⟩ | ⟨g1, d1⟩
      · obtain ⟨b, off, rfl, hb, hc⟩ := HI.out.at (k := p) (by omega)
        have c0 := (hc u p g1).1
        have c1 := (hc u p g1).2
        have hbd := HB.out _ g1
        have H3 : Hid ((vl.getD p (0, 0)).1 = v → v ∈ valB vl) := Lib.hid (fun he => bs_found (i := p) (by rw [HL.out]; exact g1) (by rw [HD.out _ g1]; exact he))
        have H4 : Hid ((vl.getD p (0, 0)).1 ≠ v → v ∉ valB vl) := Lib.hid (fun hne => bs_not H1.out (fun a h1 h2 => H2.out a h1 (by rw [HL.out] at h2; exact h2)) HS.out (fun _ => by rw [HD.out _ g1]; exact hne))
        generalize hx : (vl.getD p (0, 0)).1 = x at *
        have HX := Lib.hid hx
        clear hx
        generalize (vl.getD p (0, 0)).2 = z at *
        have H := Lib.hid (c_ofTell u x z v hbd.1 hbd.2 hv0 hv1)
        clear hc
        rcases ieq (x - v) 0 with ⟨g2, d2, _⟩ | ⟨g2, d2, _⟩
        · have g3 := Lib.hid (H3.out (by omega))
          have g4 : Hid (x = v) := Lib.hid (by omega)
          clear H3 H4 g2
          go_wp2_with (first | (refine (H.out).mono ?_; rintro e _ ⟨rfl, u1, rfl⟩))
          go_ret2
          exact RetP.mk _ ⟨p, by rw [decide_eq_true g3.out]; rfl, fun _ => ⟨g1, by rw [HX.out]; exact g4.out⟩⟩
        · have g3 := Lib.hid (H4.out (by omega))
          clear H3 H4
          go_wp2_with (first | (refine (H.out).mono ?_; rintro e _ ⟨rfl, u1, rfl⟩))
          go_ret2
          exact RetP.mk _ ⟨p, by rw [decide_eq_false g3.out]; rfl, fun c => absurd c g3.out⟩
      · have g3 := Lib.hid (bs_not (v := v) H1.out (fun a h1 h2 => H2.out a h1 (by rw [HL.out] at h2; exact h2)) HS.out (fun h => by rw [HL.out] at h; omega))
        go_wp2
        go_ret2
        exact RetP.mk u ⟨p, by rw [decide_eq_false g3.out]; rfl, fun c => absurd c g3.out⟩

set_option maxRecDepth 100000 in
set_option maxHeartbeats 4000000 in
theorem c_of {B : Nat} {W : World} (u : Later B W) (vl : List (Int × Int)) (v : Int) (a : Option Addr) (cap : Nat) (h : EdgesAt B W a vl) (hlen : vl.length ≤ 4611686018427387904) (hs : rising (valB vl)) (hb : okB vl) (hv0 : 0 ≤ v) (hv1 : v ≤ 255) :
    Calls Try.prog 24 #[.slice a vl.length cap, .int .i64 v] u.val (Ret B W (.tuple #[.int .i64 (valI vl v), .bool (decide (v ∈ valB vl))])) := by
  have K := Lib.hid (c_bsVal u vl v a cap h hlen hs hb hv0 hv1)
  have HI := Lib.hid h
  by_cases hm : v ∈ valB vl
  · have HV : Hid (∀ p, p < vl.length → (vl.getD p (0, 0)).1 = v → valI vl v = (vl.getD p (0, 0)).2) := Lib.hid (fun p hp he => by rw [← he]; exact valI_at hs hp)
    have HM := Lib.hid hm
    have hd : decide (v ∈ valB vl) = true := decide_eq_true hm
    unfold bvPost at K
    rw [hd] at K ⊢
    clear h hs hb hm hd
    generalize valI vl v = r at *
    go_enter Try.func24, Try.ntmps24
    go_upto_region 2 with (first | (go_at_call 33; (with_reducible refine (K.out).mono ?_); rintro e _ ⟨_, rfl, ⟨p, rfl, hp⟩, u1, rfl⟩))
    obtain ⟨hp1, hp2⟩ := hp HM.out
    obtain ⟨b, off, rfl, hb, hc⟩ := HI.out.at hp1
    have c1 := (hc u1 p hp1).2
    have hr := HV.out p hp1 hp2
    rw [← hr] at c1
    clear hc hr hp hp2 HV
    go_wp2
    go_ret2
    exact Ret.mk u1 rfl
  · have hd : decide (v ∈ valB vl) = false := decide_eq_false hm
    have hr : valI vl v = 0 := by unfold valI; rw [if_neg hm]
    unfold bvPost at K
    rw [hd] at K ⊢
    rw [hr]
    clear h hs hb hm hd hr HI
    go_enter Try.func24, Try.ntmps24
    go_wp2_with (first | (go_at_call 33; (with_reducible refine (K.out).mono ?_); rintro e _ ⟨_, rfl, ⟨p, rfl, _⟩, u1, rfl⟩))
    go_ret2
    exact Ret.mk u1 rfl

/-- the number of a basis, given as a set -/
def valN (vl : List (Int × Int)) (b : Nat) : Int := valI vl (b : Int)
def vlL (vl : List (Int × Int)) : List Nat := toN (valB vl)
/-- what the check answers -/
def VlIs (n : Int) (vl : List (Int × Int)) (e : Int) : Prop := ∃ me, MatIs n (valB vl) me ∧ (undE vl me ≠ 0 → e = undE vl me) ∧ (undE vl me = 0 → ExV (vlL vl) (valN vl) → e = 0) ∧ (undE vl me = 0 → ¬ ExV (vlL vl) (valN vl) → e = 6)
theorem VlIs.ex (n : Int) (vl : List (Int × Int)) : ∃ e, VlIs n vl e := by
  obtain ⟨me, hm⟩ := MatIs.ex n (valB vl)
  by_cases h : undE vl me = 0
  · by_cases g : ExV (vlL vl) (valN vl)
    · exact ⟨0, me, hm, fun c => absurd h c, fun _ _ => rfl, fun _ c => absurd g c⟩
    · exact ⟨6, me, hm, fun c => absurd h c, fun _ c => absurd c g, fun _ _ => rfl⟩
  · exact ⟨undE vl me, me, hm, fun _ => rfl, fun c => absurd c h, fun c => absurd c h⟩
/-- what is known where the bases are a matroid's and the numbers in bounds -/
structure VlOk (n : Int) (vl : List (Int × Int)) : Prop where
  ok : okM n (valB vl)
  ex : Exch (vlL vl)
  rng : rngTo vl vl.length
theorem undE_ok {n : Int} {vl : List (Int × Int)} {me : Int} (hm : MatIs n (valB vl) me) (h : undE vl me = 0) : me = 0 ∧ VlOk n vl := by
  have h0 : me = 0 := Classical.byContradiction fun c => by unfold undE at h; rw [if_neg c] at h; exact c h
  subst h0
  have hr : rngTo vl vl.length := Classical.byContradiction fun c => by unfold undE at h; rw [if_pos rfl, if_neg c] at h; exact absurd h (by decide)
  have hok : okM n (valB vl) := Classical.byContradiction fun c => absurd (hm.1 c) (by decide)
  have hex : Exch (vlL vl) := Classical.byContradiction fun c => absurd (hm.2.1 hok c) (by decide)
  exact ⟨rfl, hok, hex, hr⟩
namespace VlOk
variable {n : Int} {vl : List (Int × Int)}
theorem rise (h : VlOk n vl) : rising (valB vl) := h.ok.1.2.2.rising
theorem len (h : VlOk n vl) : (vlL vl).length = vl.length := by unfold vlL; rw [toN_len, valB_len]
theorem at_ (h : VlOk n vl) {i : Nat} (hi : i < vl.length) : (vl.getD i (0, 0)).1 = (((vlL vl).getD i 0 : Nat) : Int) ∧ (vl.getD i (0, 0)).2 = valN vl ((vlL vl).getD i 0) ∧ (vlL vl).getD i 0 < bit n.toNat ∧ (vlL vl).getD i 0 < 256 := by
  have h1 := h.ok.1.2.2 i (by rw [valB_len]; exact hi)
  have h2 := all_le n h.ok.1.2.1
  have e : (vl.getD i (0, 0)).1 = (((vlL vl).getD i 0 : Nat) : Int) := by
    unfold vlL
    rw [toN_getD, valB_getD]
    rw [valB_getD] at h1
    omega
  refine ⟨e, ?_, ?_, ?_⟩
  · unfold valN
    rw [← e, valI_at h.rise hi]
  · have hm : (vlL vl).getD i 0 ∈ vlL vl := by simp [h.len, hi]
    exact fam_lt h.ok.1 _ hm
  · rw [valB_getD, e] at h1; omega
theorem okB (h : VlOk n vl) : okB vl := fun i hi => by
  have := h.at_ hi
  omega
theorem bd (h : VlOk n vl) (b : Int) : -1000 ≤ valI vl b ∧ valI vl b ≤ 1000 := by
  unfold valI
  split
  · rename_i hm
    have hlt : (valB vl).idxOf b < vl.length := by rw [← valB_len]; exact List.idxOf_lt_length_of_mem hm
    exact h.rng _ hlt
  · omega
theorem mem (h : VlOk n vl) (b : Nat) : (b : Int) ∈ valB vl ↔ b ∈ vlL vl := by
  unfold vlL
  rw [← mem_ints, fam_ints h.ok.1]
theorem len256 (h : VlOk n vl) : vl.length ≤ 256 := by
  obtain ⟨m, L, _, _, e, _, _, hl⟩ := fam_open h.ok.1
  have := valB_len vl
  rw [e, ints_len] at this
  omega
end VlOk
theorem exV_getD {L : List Nat} {N : Nat → Int} : ExV L N ↔ ∀ i, i < L.length → ∀ j, j < L.length → exVP L N (L.getD i 0) (L.getD j 0) := by
  constructor
  · intro h i hi j hj
    have h1 : L.getD i 0 ∈ L := by simp [hi]
    have h2 : L.getD j 0 ∈ L := by simp [hj]
    exact h _ h1 _ h2
  · intro h A hA B hB
    obtain ⟨i, hi, e1⟩ := List.getElem_of_mem hA
    obtain ⟨j, hj, e2⟩ := List.getElem_of_mem hB
    have := h i hi j hj
    have e3 : L.getD i 0 = A := by simp [hi, e1]
    have e4 : L.getD j 0 = B := by simp [hj, e2]
    rw [e3, e4] at this
    exact this
/-- y serves for e -/
def vGood (L : List Nat) (N : Nat → Int) (A B e y : Nat) : Prop := (nand A (bit e) ||| bit y) ∈ L ∧ (nand B (bit y) ||| bit e) ∈ L ∧ N A + N B ≤ N (nand A (bit e) ||| bit y) + N (nand B (bit y) ||| bit e)
def exVO (L : List Nat) (N : Nat → Int) (A B t : Nat) : Prop := ∀ x, A.testBit x = true → B.testBit x = false → t.testBit x = false → exV L N A B x
def exVI (L : List Nat) (N : Nat → Int) (A B e v : Nat) (ok : Bool) : Prop := (ok = true → exV L N A B e) ∧ (ok = false → ∀ y, B.testBit y = true → A.testBit y = false → v.testBit y = false → ¬ vGood L N A B e y)
theorem exVI.start (L : List Nat) (N : Nat → Int) (A B e : Nat) : exVI L N A B e (nand B A) false := ⟨(fun h => by cases h), fun _ y h1 h2 h3 => by rw [nand_testBit, h1, h2] at h3; cases h3⟩
theorem exVI.end {L : List Nat} {N : Nat → Int} {A B e v : Nat} {ok : Bool} (h : exVI L N A B e v ok) (hv : v = 0 ∨ ok = true) : ok = true ↔ exV L N A B e := by
  constructor
  · exact h.1
  · rintro ⟨y, h1, h2, h3⟩
    cases ok with
    | true => rfl
    | false =>
      have hv0 : v = 0 := by simpa using hv
      exact absurd h3 (h.2 rfl y h1 h2 (by rw [hv0]; simp))
theorem exVI.step {L : List Nat} {N : Nat → Int} {A B e q f : Nat} (h : exVI L N A B e q false) (hB8 : B < 256) (hB : B.testBit f = true) (hA : A.testBit f = false) (hdb : ∀ i, i < 8 → (drop1 q).testBit i = (q.testBit i && decide (i ≠ f))) {b : Bool} (hb : b = true ↔ vGood L N A B e f) : exVI L N A B e (drop1 q) b := by
  refine ⟨fun c => ⟨f, hB, hA, hb.1 c⟩, fun c z h1 h2 h3 => ?_⟩
  by_cases hz : z = f
  · subst hz
    intro g
    rw [hb.2 g] at c; cases c
  · refine h.2 rfl z h1 h2 ?_
    have := hdb z (lt_of_testBit hB8 h1)
    rw [this] at h3
    simpa [hz] using h3

end Go.Proofs.Ytmhjhdgaecdloaa
