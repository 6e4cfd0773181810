
/-
  slices.Insert of one number into a row of the call's own.
-/
import Derived.Shelf.Spec.SlicesInsertGrow
import Derived.Test.YtbbhafakjfmpeaaProg
import Derived.Test.YtbbhafakjfmpeaaMem
import Derived.Test.YtbbhafakjfmpeaaRowL
namespace Go.Proofs
open Go.Shelf
def Try.laysIns_ren : Go.Shelf.Ren := ⟨fun | 21 => 27 | 27 => 30 | 28 => 31 | 35 => 33 | 39 => 35 | n => n, fun | 0 => 0 | 3 => 3 | 4 => 4 | 22 => 22 | n => n, fun | n => n⟩
theorem Try.laysIns : Go.Proofs.Lays2.n21 Try.prog Try.laysIns_ren := {
  mixed := by kernel_rfl
  f21 := Try.func27.trans (congrArg some (by kernel_rfl))
  f27 := Try.func30.trans (congrArg some (by kernel_rfl))
  f28 := Try.func31.trans (congrArg some (by kernel_rfl))
  f35 := Try.func33.trans (congrArg some (by kernel_rfl))
  f39 := Try.func35.trans (congrArg some (by kernel_rfl))
  t0 := Try.underlying0
  a0 := Try.isAgg0
  z0 := Try.sizeOf0
  v0 := Try.zeroValue0
  t3 := Try.underlying3
  a3 := Try.isAgg3
  z3 := Try.sizeOf3
  v3 := Try.zeroValue3
  t4 := Try.underlying4
  a4 := Try.isAgg4
  z4 := Try.sizeOf4
  v4 := Try.zeroValue4
  t22 := Try.underlying22
  a22 := Try.isAgg22
  z22 := Try.sizeOf22
  v22 := Try.zeroValue22
  i3 := by kernel_rfl }
end Go.Proofs
namespace Go.Proofs.Ytbbhafakjfmpeaa
open Go.RowKit
set_option linter.unusedVariables false

theorem own_mk {B : Nat} {w : World} {g cap : Nat} {xs : List Int} {cur : Array Value} (hB : B ≤ g) (hh : w.heap[g]? = some (.cells cur 3 (0, 0))) (hl : xs.length ≤ cap) (hc : cap ≤ maxLen) (hs : cur.size = cap) (hx : ∀ j, j < xs.length → cur[j]? = some (.int .i64 (xs.getD j 0))) : Own B w (some ⟨g, 0, none⟩) cap xs := by
  refine ⟨by simp, .inr ⟨g, cap, cur, rfl, hB, hh, by omega, hc, by omega, ?_⟩⟩
  rw [Nat.mul_one]
  apply List.ext_getElem?
  intro j
  rw [List.getElem?_take, List.getElem?_map]
  by_cases h : j < xs.length
  · rw [if_pos h, Array.getElem?_toList, hx j h]
    simp [h]
  · rw [if_neg h]
    simp [show xs.length ≤ j by omega]
theorem own_open {B : Nat} {w : World} {ad : Option Addr} {cap : Nat} {xs : List Int} (h : Own B w ad cap xs) : (ad = none ∧ cap = 0 ∧ xs = []) ∨ ∃ g cur, ad = some ⟨g, 0, none⟩ ∧ B ≤ g ∧ w.heap[g]? = some (.cells cur 3 (0, 0)) ∧ xs.length ≤ cap ∧ cap ≤ maxLen ∧ cur.size = cap ∧ ∀ j, j < xs.length → cur[j]? = some (.int .i64 (xs.getD j 0)) := by
  rcases h.2 with ⟨e, hn⟩ | ⟨g, c, cur, e, h1, h2, h3, h4, h5, h6⟩
  · left
    simp only [Value.slice.injEq] at e
    exact ⟨e.1, e.2.2, List.length_eq_zero_iff.1 hn⟩
  · right
    simp only [Value.slice.injEq] at e
    obtain ⟨e1, _, e3⟩ := e
    subst e3
    refine ⟨g, cur, e1, h1, h2, h3, h4, by omega, fun j hj => ?_⟩
    have h7 := congrArg (fun l : List Value => l[j]?) h6
    simp only [Nat.mul_one] at h7
    rw [List.getElem?_take, if_pos hj, Array.getElem?_toList, List.getElem?_map] at h7
    rw [h7]
    simp [hj]
theorem heap_setCells_at {t : TypeId} {g : Nat} : ∀ (vs : List Value) (o : Nat) (w : World) (cur : Array Value), w.heap[g]? = some (.cells cur t (0, 0)) → ∃ cur' : Array Value, (w.setCells g o vs).heap[g]? = some (.cells cur' t (0, 0)) ∧ cur'.size = cur.size ∧ ∀ j, cur'[j]? = if o ≤ j ∧ j < o + vs.length ∧ j < cur.size then vs[j - o]? else cur[j]?
  | [], o, w, cur, h => ⟨cur, h, rfl, fun j => by rw [if_neg (by simp; omega)]⟩
  | v :: r, o, w, cur, h => by
    have h1 : (w.setCell ⟨g, o, none⟩ v).heap[g]? = some (.cells (cur.setIfInBounds o v) t (0, 0)) := by
      simp only [World.setCell, Array.getElem?_modify, h]
      simp
    obtain ⟨cur', e1, e2, e3⟩ := heap_setCells_at r (o + 1) _ _ h1
    refine ⟨cur', e1, by rw [e2]; simp, fun j => ?_⟩
    rw [e3 j, List.length_cons, Array.size_setIfInBounds]
    by_cases c1 : o + 1 ≤ j ∧ j < o + 1 + r.length ∧ j < cur.size
    · rw [if_pos c1, if_pos (by omega), show j - o = (j - (o + 1)) + 1 by omega, List.getElem?_cons_succ]
    · rw [if_neg c1, Array.getElem?_setIfInBounds]
      by_cases c2 : o = j
      · subst c2
        by_cases c3 : o < cur.size
        · rw [if_pos rfl, if_pos c3, if_pos (by omega)]; simp
        · rw [if_pos rfl, if_neg c3, if_neg (by omega), Array.getElem?_eq_none (by omega)]
      · rw [if_neg c2, if_neg (by omega)]
theorem later_setCells {B : Nat} {W : World} {g : Nat} (hg : B ≤ g) : ∀ (vs : List Value) (o : Nat) (w : World), (∃ u : Later B W, u.val = w) → ∃ u : Later B W, u.val = w.setCells g o vs
  | [], _, _, h => h
  | v :: r, o, w, h => later_setCells hg r (o + 1) _ (later_set h hg v)
/-- a number put in between -/
def insL (xs : List Int) (k : Nat) (y : Int) : List Int := xs.take k ++ y :: xs.drop k
theorem insL_len {xs : List Int} {k : Nat} (y : Int) (h : k ≤ xs.length) : (insL xs k y).length = xs.length + 1 := by
  unfold insL; simp; omega
theorem insL_getD {xs : List Int} {k : Nat} (y : Int) (h : k ≤ xs.length) (t : Nat) : (insL xs k y).getD t 0 = if t < k then xs.getD t 0 else if t = k then y else xs.getD (t - 1) 0 := by
  unfold insL
  have hl : (xs.take k).length = k := by simp; omega
  rw [List.getD_eq_getElem?_getD, List.getElem?_append, hl]
  by_cases c : t < k
  · rw [if_pos c, if_pos c, List.getElem?_take, if_pos c, List.getD_eq_getElem?_getD]
  · rw [if_neg c, if_neg c]
    by_cases c2 : t = k
    · subst c2; simp
    · rw [if_neg c2, show t - k = (t - k - 1) + 1 by omega, List.getElem?_cons_succ, List.getElem?_drop, List.getD_eq_getElem?_getD, show k + (t - k - 1) = t - 1 by omega]
def InsRes (B : Nat) (W : World) (ys : List Int) : Ending → World → Prop := fun e w' => ∃ (v : Later B W) (ad : Option Addr) (cp : Nat), e = .returned (.slice ad ys.length cp) ∧ w' = v.val ∧ Own B v.val ad cp ys

set_option maxRecDepth 100000 in
set_option maxHeartbeats 8000000 in
theorem c_insert {B : Nat} {W : World} (u : Later B W) (xs : List Int) (ad : Option Addr) (cap k : Nat) (y : Int) (hk : k ≤ xs.length) (ho : Own B u.val ad cap xs) (hlen : xs.length ≤ 1000) :
    Calls Try.prog 27 #[.slice ad xs.length cap, .int .i64 k, .slice (some ⟨u.val.heap.size, 0, none⟩) 1 1] (u.val.alloc (.cells #[.int .i64 y] 3)) (InsRes B W (insL xs k y)) := by
  have hml : maxLen = 9223372036854775807 := by decide
  have T : RowL (u.val.alloc (.cells #[.int .i64 y] 3)) u.val.heap.size 3 [.int .i64 y] := RowL.new _ _ _
  have hvs : ∀ j v, [Value.int .i64 y][j]? = some v → (u.val.alloc (.cells #[.int .i64 y] 3)).cell? ⟨u.val.heap.size, 0 + j, none⟩ = some v := fun j v hj => by
    rw [Nat.zero_add]; exact T.cell hj
  have h1v : ∀ v ∈ [Value.int .i64 y], v.oneCell' = true := fun v hv => by
    have : v = .int .i64 y := by simpa using hv
    rw [this]; rfl
  obtain ⟨ua, hua⟩ : ∃ ua : Later B W, ua.val = u.val.alloc (.cells #[.int .i64 y] 3) := ⟨u.alloc _, rfl⟩
  have hys := insL_len y hk
  have hW1B : B ≤ (u.val.alloc (.cells #[.int .i64 y] 3)).heap.size := by have := u.size; simp; omega
  rcases own_open ho with ⟨rfl, rfl, rfl⟩ | ⟨g, cur, rfl, hB, hh, hl, hc, hs, hx⟩
  · -- no row yet
    have hk0 : k = 0 := by simpa using hk
    subst hk0
    refine (Any2.slices_Insert_int_end_grow Try.laysIns none 0 0 u.val.heap.size 0 1 1 [] [.int .i64 y] (u.val.alloc (.cells #[.int .i64 y] 3)) (by omega) (by omega) (by omega) (by omega) rfl rfl (fun _ => rfl) (fun a e => by cases e) hvs h1v).mono ?_
    rintro e w' ⟨rfl, rfl⟩
    have hG' : grownCap (u.val.alloc (.cells #[.int .i64 y] 3)) (0 + 1) 0 (Try.laysIns_ren.t 3) = grownCap (u.val.alloc (.cells #[.int .i64 y] 3)) 1 0 3 := rfl
    rw [hG']
    have g1 := grownCap_ge (u.val.alloc (.cells #[.int .i64 y] 3)) 1 0 3
    have g2 := grownCap_le_maxLen (u.val.alloc (.cells #[.int .i64 y] 3)) 1 0 3 (by rw [hml]; omega)
    refine ⟨ua.drew.alloc _, _, _, rfl, by show _ = (ua.val.drew.alloc _); rw [hua], ?_⟩
    show Own B (ua.val.drew.alloc _) _ _ _
    rw [hua]
    refine own_mk (cur := _) hW1B (heap_alloc_new _ _) g1 g2 ?_ ?_
    · simp [Builtin.zeroCells, Value.cells]; omega
    · intro j hj
      have e1 : (insL [] 0 y).length = 1 := rfl
      have : j = 0 := by omega
      subst this
      rw [Array.getElem?_append_left (by simp)]
      rfl
  · have hgu : g < u.val.heap.size := (Array.getElem?_eq_some_iff.1 hh).1
    have hh2 : (u.val.alloc (.cells #[.int .i64 y] 3)).heap[g]? = some (.cells cur 3 (0, 0)) := by
      rw [((Below.refl u.val.heap.size u.val).alloc (Nat.le_refl _) (.cells #[.int .i64 y] 3)).block g hgu]; exact hh
    have hcell : ∀ j, (u.val.alloc (.cells #[.int .i64 y] 3)).cell? ⟨g, j, none⟩ = cur[j]? := fun j => by
      unfold World.cell?
      rw [hh2]; simp
    have hfz : ∀ j, (u.val.alloc (.cells #[.int .i64 y] 3)).frozen? ⟨g, j, none⟩ = false := fun j => by
      unfold World.frozen?
      rw [hh2]; simp
    have hcs : ∀ j v, (xs.map (Value.int .i64))[j]? = some v → (u.val.alloc (.cells #[.int .i64 y] 3)).cell? ⟨g, 0 + j, none⟩ = some v := fun j v hj => by
      rw [Nat.zero_add, hcell]
      have hjl : j < xs.length := by
        have := (List.getElem?_eq_some_iff.1 hj).1
        simpa using this
      rw [hx j hjl]
      simp [hjl] at hj
      rw [← hj]; simp [hjl]
    have h1c : ∀ v ∈ xs.map (Value.int .i64), v.oneCell' = true := fun v hv => by
      obtain ⟨z, _, rfl⟩ := List.mem_map.1 hv
      rfl
    by_cases hroom : xs.length + 1 ≤ cap
    · by_cases hend : k = xs.length
      · -- at the end, with room
        subst hend
        refine (Any2.slices_Insert_int_end_room Try.laysIns g 0 xs.length cap u.val.heap.size 0 1 1 [.int .i64 y] (u.val.alloc (.cells #[.int .i64 y] 3)) (by omega) hroom (by rw [hml] at hc; omega) rfl (fun j hj => by rw [hcell, Array.getElem?_eq_getElem (by omega)]; rfl) (fun j hj => hfz _) hvs h1v).mono ?_
        rintro e w' ⟨rfl, rfl⟩
        obtain ⟨cur', e1, e2, e3⟩ := heap_setCells_at [.int .i64 y] (0 + xs.length) _ cur hh2
        obtain ⟨v, hv⟩ := later_setCells hB [.int .i64 y] (0 + xs.length) _ ⟨ua, hua⟩
        refine ⟨v, _, cap, by rw [hys], hv.symm, ?_⟩
        rw [hv]
        refine own_mk hB e1 (by omega) hc (by omega) (fun j hj => ?_)
        rw [hys] at hj
        rw [e3 j, insL_getD y (Nat.le_refl _)]
        by_cases c : j < xs.length
        · rw [if_neg (by omega), if_pos c, hx j c]
        · have : j = xs.length := by omega
          subst this
          rw [if_pos (by simp; omega), if_neg (by omega), if_pos rfl]
          simp
      · -- in between, with room
        have hkl : k < xs.length := by omega
        refine (Any2.slices_Insert_int_shift Try.laysIns g 0 xs.length cap k u.val.heap.size 0 1 1 (xs.map (Value.int .i64)) [.int .i64 y] (u.val.alloc (.cells #[.int .i64 y] 3)) hkl (by omega) hroom (by rw [hml] at hc; omega) (by omega) (by simp) rfl hcs (fun j hj => by rw [Nat.zero_add, hcell, Array.getElem?_eq_getElem (by omega)]; rfl) (fun j hj => hfz _) hvs h1c h1v 3 3 1 cap (by unfold World.shape?; rw [T]; rfl) (by unfold World.shape?; rw [hh2]; simp [hs]) (by omega) (T.fz _) (T.fz _)).mono ?_
        rintro e w' ⟨rfl, rfl⟩
        have hh3 : (u.val.alloc (.cells #[.int .i64 y] 3)).drew.heap[g]? = some (.cells cur 3 (0, 0)) := hh2
        obtain ⟨c1, a1, a2, a3⟩ := heap_setCells_at ((xs.map (Value.int .i64)).drop k) (0 + (k + 1)) _ cur hh3
        obtain ⟨c2, b1, b2, b3⟩ := heap_setCells_at [.int .i64 y] (0 + k) _ c1 a1
        obtain ⟨v, hv⟩ := later_setCells hB [.int .i64 y] (0 + k) _ (later_setCells hB ((xs.map (Value.int .i64)).drop k) (0 + (k + 1)) _ ⟨ua.drew, by show ua.val.drew = _; rw [hua]⟩)
        refine ⟨v, _, cap, by rw [hys], hv.symm, ?_⟩
        rw [hv]
        refine own_mk hB b1 (by omega) hc (by omega) (fun j hj => ?_)
        rw [hys] at hj
        rw [b3 j, a2, insL_getD y hk]
        by_cases q1 : j < k
        · rw [if_neg (by simp; omega), a3 j, if_neg (by omega), if_pos q1, hx j (by omega)]
        · by_cases q2 : j = k
          · subst q2
            rw [if_pos (by simp; omega), if_neg (by omega), if_pos rfl]; simp
          · rw [if_neg (by simp; omega), a3 j, if_pos (by simp; omega), if_neg q1, if_neg q2, List.getElem?_drop, List.getElem?_map]
            rw [show k + (j - (0 + (k + 1))) = j - 1 by omega]
            simp [show j - 1 < xs.length by omega]
    · by_cases hend : k = xs.length
      · -- at the end, no room
        subst hend
        refine (Any2.slices_Insert_int_end_grow Try.laysIns (some ⟨g, 0, none⟩) xs.length cap u.val.heap.size 0 1 1 (xs.map (Value.int .i64)) [.int .i64 y] (u.val.alloc (.cells #[.int .i64 y] 3)) (by omega) hl (by omega) (by omega) (by simp) rfl (fun e => by cases e) (fun a e j v hj => by cases e; rw [Addr.add_lit]; exact hcs j v hj) hvs h1v).mono ?_
        rintro e w' ⟨rfl, rfl⟩
        have hG' : grownCap (u.val.alloc (.cells #[.int .i64 y] 3)) (xs.length + 1) cap (Try.laysIns_ren.t 3) = grownCap (u.val.alloc (.cells #[.int .i64 y] 3)) (xs.length + 1) cap 3 := rfl
        rw [hG']
        have g1 := grownCap_ge (u.val.alloc (.cells #[.int .i64 y] 3)) (xs.length + 1) cap 3
        have g2 := grownCap_le_maxLen (u.val.alloc (.cells #[.int .i64 y] 3)) (xs.length + 1) cap 3 (by rw [hml]; omega)
        refine ⟨ua.drew.alloc _, _, _, by rw [hys], by show _ = (ua.val.drew.alloc _); rw [hua], ?_⟩
        show Own B (ua.val.drew.alloc _) _ _ _
        rw [hua]
        refine own_mk (cur := _) hW1B (heap_alloc_new _ _) (by rw [hys]; exact g1) g2 ?_ (fun j hj => ?_)
        · simp [Builtin.zeroCells, Value.cells]; omega
        · rw [hys] at hj
          rw [insL_getD y (Nat.le_refl _), Array.getElem?_append_left (by simp; omega), List.getElem?_toArray]
          by_cases c : j < xs.length
          · rw [if_pos c, List.getElem?_append_left (by simpa using c)]; simp [c]
          · have : j = xs.length := by omega
            subst this
            rw [if_neg (by omega), if_pos rfl, List.getElem?_append_right (by simp)]; simp
      · -- in between, no room
        have hkl : k < xs.length := by omega
        refine (Any2.slices_Insert_int_grow Try.laysIns g 0 xs.length cap k u.val.heap.size 0 1 1 (xs.map (Value.int .i64)) [.int .i64 y] (u.val.alloc (.cells #[.int .i64 y] 3)) hkl (by omega) hl (by omega) (by omega) (by simp) rfl hcs hvs h1c h1v).mono ?_
        rintro e w' ⟨rfl, rfl⟩
        have g1 := grownCap_ge (u.val.alloc (.cells #[.int .i64 y] 3)) (xs.length + 1) cap 3
        have g2 := grownCap_le_maxLen (u.val.alloc (.cells #[.int .i64 y] 3)) (xs.length + 1) cap 3 (by rw [hml]; omega)
        obtain ⟨G, hG⟩ : ∃ G, G = grownCap (u.val.alloc (.cells #[.int .i64 y] 3)) (xs.length + 1) cap 3 := ⟨_, rfl⟩
        rw [← hG] at g1 g2
        have hG' : grownCap (u.val.alloc (.cells #[.int .i64 y] 3)) (xs.length + 1) cap (Try.laysIns_ren.t 3) = G := hG.symm
        rw [hG']
        obtain ⟨ROW, hROW⟩ : ∃ ROW : Array Value, ROW = ((xs.map (Value.int .i64)).take k).toArray ++ Builtin.zeroCells (Value.int .i64 0).cells (xs.length + 1 - k) ++ Builtin.zeroCells (Value.int .i64 0).cells (G - (xs.length + 1)) := ⟨_, rfl⟩
        have hRs : ROW.size = G := by rw [hROW]; simp [Builtin.zeroCells, Value.cells]; omega
        have hRx : ∀ j, j < k → ROW[j]? = some (.int .i64 (xs.getD j 0)) := fun j hj => by
          rw [hROW, Array.getElem?_append_left (by simp [Builtin.zeroCells, Value.cells]; omega), Array.getElem?_append_left (by simp; omega), List.getElem?_toArray, List.getElem?_take, if_pos hj, List.getElem?_map]
          simp [show j < xs.length by omega]
        rw [← hROW]
        obtain ⟨gn, hgn⟩ : ∃ gn, gn = (u.val.alloc (.cells #[.int .i64 y] 3)).heap.size := ⟨_, rfl⟩
        rw [← hgn] at hW1B ⊢
        have hh3 : ((u.val.alloc (.cells #[.int .i64 y] 3)).alloc (.cells ROW 3)).drew.heap[gn]? = some (.cells ROW 3 (0, 0)) := by rw [hgn]; exact heap_alloc_new _ _
        obtain ⟨c1, a1, a2, a3⟩ := heap_setCells_at [.int .i64 y] k _ ROW hh3
        have a1' : (((u.val.alloc (.cells #[.int .i64 y] 3)).alloc (.cells ROW 3)).drew.setCells gn k [.int .i64 y]).drew.heap[gn]? = some (.cells c1 3 (0, 0)) := a1
        obtain ⟨c2, b1, b2, b3⟩ := heap_setCells_at ((xs.map (Value.int .i64)).drop k) (k + 1) _ c1 a1'
        obtain ⟨v1, hv1⟩ := later_setCells (W := W) hW1B [.int .i64 y] k (((u.val.alloc (.cells #[.int .i64 y] 3)).alloc (.cells ROW 3)).drew) ⟨(ua.alloc _).drew, by show (ua.val.alloc _).drew = _; rw [hua]⟩
        obtain ⟨v, hv⟩ := later_setCells (W := W) hW1B ((xs.map (Value.int .i64)).drop k) (k + 1) _ ⟨v1.drew, by show v1.val.drew = _; rw [hv1]⟩
        refine ⟨v, _, G, by rw [hys], hv.symm, ?_⟩
        rw [hv]
        refine own_mk hW1B b1 (by omega) g2 (by omega) (fun j hj => ?_)
        rw [hys] at hj
        rw [b3 j, a2, hRs, insL_getD y hk]
        by_cases q1 : j < k
        · rw [if_neg (by simp; omega), a3 j, if_neg (by simp; omega), if_pos q1, hRx j q1]
        · by_cases q2 : j = k
          · subst q2
            rw [if_neg (by simp; omega), a3 j, if_pos (by simp; omega), if_neg (by omega), if_pos rfl]; simp
          · rw [if_pos (by simp; omega), if_neg q1, if_neg q2, List.getElem?_drop, List.getElem?_map]
            rw [show k + (j - (k + 1)) = j - 1 by omega]
            simp [show j - 1 < xs.length by omega]

end Go.Proofs.Ytbbhafakjfmpeaa
