/-
  rotaref.Induced.
-/
import Derived.Test.YtcljgnmlpfddiaaSubI
namespace Go.Proofs.Ytcljgnmlpfddiaa
open Go.RowKit
set_option linter.unusedVariables false

theorem boxed_cell (w : World) (v : Value) (t : TypeId) (o : Obj) (x : Later ((w.alloc (.cells #[v] t)).alloc o).heap.size ((w.alloc (.cells #[v] t)).alloc o)) : x.val.cell? ⟨w.heap.size, 0, none⟩ = some v := by
  rw [x.cell (by simp; omega)]
  rw [((Below.refl (w.heap.size + 1) (w.alloc (.cells #[v] t))).alloc (by simp) o).cell (p := ⟨w.heap.size, 0, none⟩) (by simp)]
  exact cell_one_new w v t 0 _ rfl

/-- a struct of two cells in block g -/
def Two (w : World) (g : Nat) (t : TypeId) (a b : Value) : Prop := w.heap[g]? = some (.cells #[a, b] t (0, 0))
namespace Two
variable {w : World} {g : Nat} {t : TypeId} {a b : Value}
theorem c0 (h : Two w g t a b) : w.cell? ⟨g, 0, none⟩ = some a := by rw [cell_of_row w g 0 _ _ _ h]; rfl
theorem c1 (h : Two w g t a b) : w.cell? ⟨g, 1, none⟩ = some b := by rw [cell_of_row w g 1 _ _ _ h]; rfl
theorem fz (h : Two w g t a b) (i : Nat) : w.frozen? ⟨g, i, none⟩ = false := by
  unfold World.frozen?
  rw [h]; simp
theorem lt (h : Two w g t a b) : g < w.heap.size := by
  have h' : w.heap[g]? = _ := h
  exact (Array.getElem?_eq_some_iff.1 h').1
theorem keep {w' : World} (h : Two w g t a b) (hb : Below w.heap.size w w') : Two w' g t a b := by
  show w'.heap[g]? = _
  rw [hb.block g h.lt]; exact h
theorem new (w : World) (t : TypeId) (a b : Value) : Two (w.alloc (.cells #[a, b] t)) w.heap.size t a b := heap_alloc_new w _
theorem set0 (h : Two w g t a b) (x : Value) : Two (w.setCell ⟨g, 0, none⟩ x) g t x b := by
  have h' : w.heap[g]? = _ := h
  simp only [Two, World.setCell, Array.getElem?_modify, h']
  simp
theorem set1 (h : Two w g t a b) (x : Value) : Two (w.setCell ⟨g, 1, none⟩ x) g t a x := by
  have h' : w.heap[g]? = _ := h
  simp only [Two, World.setCell, Array.getElem?_modify, h']
  simp
end Two
/-- a row of the call's own is not touched by a write to an older block -/
theorem Own.set {B : Nat} {w : World} {ad : Option Addr} {cap : Nat} {xs : List Int} (h : Own B w ad cap xs) {g i : Nat} (hg : g < B) (x : Value) : Own B (w.setCell ⟨g, i, none⟩ x) ad cap xs := by
  refine h.kept (row := some g) ⟨rfl, rfl, rfl, by simp, fun k hk hne => Below.heap_setCell _ _ _ _ (by rintro rfl; exact hne rfl)⟩ ?_
  cases hb : (Value.slice ad xs.length cap).ownBlock with
  | none => exact .inl rfl
  | some k =>
    right
    have := (World.ownsRow.lt h k hb).1
    rintro e
    cases e
    omega

/-- a result: a matroid, its bases a list of sets -/
def MatV (n : Int) (xs : List Int) (v : Value) (w : World) : Prop := ∃ b, v = .agg #[.int .i64 n, b] ∧ Reads w.heap.size w b xs
def RetMat (B : Nat) (W : World) (n : Int) (xs : List Int) : Ending → World → Prop := RetP B W (MatV n xs)

theorem Own.mono {B B' : Nat} {w : World} {ad : Option Addr} {cap : Nat} {xs : List Int} (h : Own B w ad cap xs) (hb : B' ≤ B) : Own B' w ad cap xs := by
  obtain ⟨h1, h2⟩ := h
  refine ⟨h1, ?_⟩
  rcases h2 with h2 | ⟨g, c, cur, e, hB, r⟩
  · exact .inl h2
  · exact .inr ⟨g, c, cur, e, Nat.le_trans hb hB, r⟩
/-- a result: a matroid whose bases lie in a row of the call's own, at blocks from B on -/
def MatO (B : Nat) (n : Int) (xs : List Int) (v : Value) (w : World) : Prop := ∃ ad cp, v = .agg #[.int .i64 n, .slice ad xs.length cp] ∧ Own B w ad cp xs
theorem MatO.v {B : Nat} {n : Int} {xs : List Int} {v : Value} {w : World} (h : MatO B n xs v w) : MatV n xs v w := by
  obtain ⟨ad, cp, e, ho⟩ := h
  exact ⟨_, e, Reads.of_own ho⟩

set_option maxRecDepth 100000 in
set_option maxHeartbeats 2000000 in
theorem c_refInduced_own {B : Nat} {W : World} (u : Later B W) (m : Nat) (hm : m ≤ 8) (f : List Int) (a : Option Addr) (cap : Nat) (h : IntsAt B W a f) (hl : f.length = bit m) :
    Calls Try.prog 61 #[.int .i64 m, .slice a f.length cap] u.val (RetP B W (MatO B m (ints (biggest (those m (indep f)))))) := by
  have hb := bit_le m hm
  have hlen : f.length ≤ 256 := by omega
  have HL := Lib.hid hl; clear hl
  have hB := u.size
  have K : ∀ (o2 : Obj), Calls Try.prog 102 #[.int .i64 m, .func (.func 118) #[] #[.pointer (some ⟨u.val.heap.size, 0, none⟩)]] ((u.val.alloc (.cells #[.slice a f.length cap] 53)).alloc o2)
      (RetInts ((u.val.alloc (.cells #[.slice a f.length cap] 53)).alloc o2).heap.size ((u.val.alloc (.cells #[.slice a f.length cap] 53)).alloc o2) (ints (those m (indep f)))) := fun o2 => by
    refine c_those (Later.self _) m hm 118 _ (indep f) (fun args w => by kernel_rfl) (fun x v s hs => ?_)
    have h1 : IntsAt x.val.heap.size x.val a f := (h.to u).later (((Below.refl _ _).alloc (Nat.le_refl _) _).trans (((Below.refl _ _).alloc (by simp) _).trans (x.below.mono (by simp; omega)))) |>.mono (by have := x.size; simp at this; omega)
    refine c_inducedTell v f hlen cap u.val.heap.size a s (by have := HL.out; omega) h1 (by have := x.size; simp at this; omega) ?_
    exact boxed_cell _ _ _ _ x
  have KH := Lib.hid K; clear K
  have HBG : Hid (∀ s ∈ those m (indep f), s < 256) := Lib.hid (fun s hs => by have := (mem_those.1 hs).1; omega)
  have HTL : Hid ((those m (indep f)).length ≤ 256) := Lib.hid (by have := thoseTo_len (indep f) (bit m); have e : those m (indep f) = thoseTo (indep f) (bit m) := rfl; rw [e]; omega)
  generalize those m (indep f) = L at *
  go_enter Try.func61, Try.ntmps61
  go_wp2_with (first | (go_at_call 102; refine (KH.out (.cells #[.int .i64 0, .slice none 0 0] 60)).mono ?_; rintro e _ ⟨_, rfl, ⟨ad1, cp1, rfl, hI1, hcp1⟩, v1, rfl⟩))
  have HB := Lib.hid (c_biggest_own (Later.self v1.val) L ad1 cp1 hI1 (by have := HTL.out; omega) HBG.out)
  have hg : u.val.heap.size + 1 < v1.val.heap.size := by have := v1.size; simp at this; omega
  have T0 : Two v1.val (u.val.heap.size + 1) 60 (.int .i64 0) (.slice none 0 0) := by
    have := (Two.new (u.val.alloc (.cells #[.slice a f.length cap] 53)) 60 (.int .i64 0) (.slice none 0 0)).keep v1.below
    simpa using this
  refine HB.out.mono ?_
  rintro e _ ⟨_, rfl, ⟨ad2, cp2, rfl, hI2⟩, v2, rfl⟩
  have T1 := Lib.hid (T0.keep v2.below)
  have e0 := T1.out.c0; have e1 := T1.out.c1; have e2 := T1.out.fz 0; have e3 := T1.out.fz 1
  have e4 := (T1.out.set0 (.int .i64 m)).c1; have e5 := (T1.out.set0 (.int .i64 m)).fz 1
  go_wp2
  refine bodyPost_ret (results_cell_row rfl _ _ (u.val.heap.size + 1) 60 #[.int .i64 m, .slice ad2 (ints (biggest L)).length cp2] (0, 0) _ rfl ((T1.out.set0 _).set1 _) Try.underlying60 rfl (by kernel_rfl)) rfl ?_
  have hB1 : B ≤ u.val.heap.size + 1 := by omega
  refine RetP.mk (((((u.alloc (.cells #[.slice a f.length cap] 53)).alloc (.cells #[.int .i64 0, .slice none 0 0] 60)).up v1).up v2).set ⟨u.val.heap.size + 1, 0, none⟩ hB1 _ |>.set ⟨u.val.heap.size + 1, 1, none⟩ hB1 _) ?_
  exact ⟨_, _, rfl, ((hI2.set hg _).set hg _).mono (by omega)⟩
theorem c_refInduced {B : Nat} {W : World} (u : Later B W) (m : Nat) (hm : m ≤ 8) (f : List Int) (a : Option Addr) (cap : Nat) (h : IntsAt B W a f) (hl : f.length = bit m) :
    Calls Try.prog 61 #[.int .i64 m, .slice a f.length cap] u.val (RetMat B W m (ints (biggest (those m (indep f))))) := (c_refInduced_own u m hm f a cap h hl).mono fun _ _ ⟨v, e, h, u⟩ => ⟨v, e, h.v, u⟩

end Go.Proofs.Ytcljgnmlpfddiaa
