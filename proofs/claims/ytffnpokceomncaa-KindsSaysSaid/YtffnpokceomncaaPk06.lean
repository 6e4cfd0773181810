
/-
  Structs of two cells; matroids as results.
  rotaref.Induced.
  Functions that fall nowhere; the sets within a set, falling. No program in sight.
-/
import Derived.Test.YtffnpokceomncaaPk02
import Derived.Laws.ResultCell
import Derived.Test.YtffnpokceomncaaPk05
namespace Go.Proofs.Ytffnpokceomncaa
open Go.RowKit
set_option linter.unusedVariables false

theorem boxed_cell (w : World) (v : Value) (t : TypeId) (o : Obj) (x : Later ((w.alloc (.cells #[v] t)).alloc o).heap.size ((w.alloc (.cells #[v] t)).alloc o)) : x.val.cell? ⟨w.heap.size, 0, none⟩ = some v := by
  rw [x.cell (by simp; omega)]
  rw [((Below.refl (w.heap.size + 1) (w.alloc (.cells #[v] t))).alloc (by simp) o).cell (p := ⟨w.heap.size, 0, none⟩) (by simp)]
  exact cell_one_new w v t 0 _ rfl

/-- a struct of two cells in block g -/
def Two (w : World) (g : Nat) (t : TypeId) (a b : Value) : Prop := w.heap[g]? = some (.cells #[a, b] t (0, 0))
namespace Two
variable {w : World} {g : Nat} {t : TypeId} {a b : Value}
theorem c0 (h : Two w g t a b) : w.cell? ⟨g, 0, none⟩ = some a := by rw [cell_of_row w g 0 _ _ _ h]; rfl
theorem c1 (h : Two w g t a b) : w.cell? ⟨g, 1, none⟩ = some b := by rw [cell_of_row w g 1 _ _ _ h]; rfl
theorem fz (h : Two w g t a b) (i : Nat) : w.frozen? ⟨g, i, none⟩ = false := by
  unfold World.frozen?
  rw [h]; simp
theorem lt (h : Two w g t a b) : g < w.heap.size := by
  have h' : w.heap[g]? = _ := h
  exact (Array.getElem?_eq_some_iff.1 h').1
theorem keep {w' : World} (h : Two w g t a b) (hb : Below w.heap.size w w') : Two w' g t a b := by
  show w'.heap[g]? = _
  rw [hb.block g h.lt]; exact h
theorem new (w : World) (t : TypeId) (a b : Value) : Two (w.alloc (.cells #[a, b] t)) w.heap.size t a b := heap_alloc_new w _
theorem set0 (h : Two w g t a b) (x : Value) : Two (w.setCell ⟨g, 0, none⟩ x) g t x b := by
  have h' : w.heap[g]? = _ := h
  simp only [Two, World.setCell, Array.getElem?_modify, h']
  simp
theorem set1 (h : Two w g t a b) (x : Value) : Two (w.setCell ⟨g, 1, none⟩ x) g t a x := by
  have h' : w.heap[g]? = _ := h
  simp only [Two, World.setCell, Array.getElem?_modify, h']
  simp
end Two
/-- a row of the call's own is not touched by a write to an older block -/
theorem Own.set {B : Nat} {w : World} {ad : Option Addr} {cap : Nat} {xs : List Int} (h : Own B w ad cap xs) {g i : Nat} (hg : g < B) (x : Value) : Own B (w.setCell ⟨g, i, none⟩ x) ad cap xs := by
  refine h.kept (row := some g) ⟨rfl, rfl, rfl, by simp, fun k hk hne => Below.heap_setCell _ _ _ _ (by rintro rfl; exact hne rfl)⟩ ?_
  cases hb : (Value.slice ad xs.length cap).ownBlock with
  | none => exact .inl rfl
  | some k =>
    right
    have := (World.ownsRow.lt h k hb).1
    rintro e
    cases e
    omega

/-- a result: a matroid, its bases a list of sets -/
def MatV (n : Int) (xs : List Int) (v : Value) (w : World) : Prop := ∃ b, v = .agg #[.int .i64 n, b] ∧ Reads w.heap.size w b xs
def RetMat (B : Nat) (W : World) (n : Int) (xs : List Int) : Ending → World → Prop := RetP B W (MatV n xs)

theorem Own.mono {B B' : Nat} {w : World} {ad : Option Addr} {cap : Nat} {xs : List Int} (h : Own B w ad cap xs) (hb : B' ≤ B) : Own B' w ad cap xs := by
  obtain ⟨h1, h2⟩ := h
  refine ⟨h1, ?_⟩
  rcases h2 with h2 | ⟨g, c, cur, e, hB, r⟩
  · exact .inl h2
  · exact .inr ⟨g, c, cur, e, Nat.le_trans hb hB, r⟩
/-- a result: a matroid whose bases lie in a row of the call's own, at blocks from B on -/
def MatO (B : Nat) (n : Int) (xs : List Int) (v : Value) (w : World) : Prop := ∃ ad cp, v = .agg #[.int .i64 n, .slice ad xs.length cp] ∧ Own B w ad cp xs
theorem MatO.v {B : Nat} {n : Int} {xs : List Int} {v : Value} {w : World} (h : MatO B n xs v w) : MatV n xs v w := by
  obtain ⟨ad, cp, e, ho⟩ := h
  exact ⟨_, e, Reads.of_own ho⟩

theorem Two.keep_at {w w' : World} {g B : Nat} {t : TypeId} {a b : Value} (h : Two w g t a b) (hb : Below B w w') (hg : g < B) : Two w' g t a b := by
  show w'.heap[g]? = _
  rw [hb.block g hg]; exact h

theorem results_two {fn : Func} {p x : Tmp} {ty : TypeId} (h : fn.results = #[.cell p ty, .tmp x]) {P : Program} (tmps : Array Value) (w : World) (g : Nat) {t : TypeId} {a b : Value} {fs : Array Field}
    (hp : tmps.getD p undef = .pointer (some ⟨g, 0, none⟩)) (hT : Two w g t a b)
    (hu : P.underlying ty = some (.struct fs)) (hi : (P.info? ty).map (·.size) = some 2) :
    (results fn tmps).run P w = .ok (.tuple #[.agg #[a, b], tmps.getD x undef]) w := by
  have hl := run_loadVar_row (P := P) w g t ty #[a, b] (0, 0) _ hT hu rfl hi
  rw [results_cell_tmp h, hp]
  simp [asAddr, Result.andThen, hl]

end Go.Proofs.Ytffnpokceomncaa

namespace Go.Proofs.Ytffnpokceomncaa
open Go.RowKit
set_option linter.unusedVariables false

end Go.Proofs.Ytffnpokceomncaa

namespace Go.Proofs.Ytffnpokceomncaa
set_option linter.unusedVariables false

def MonoL (f : List Int) (m : Nat) : Prop := ∀ s, s < f.length → ∀ i, i < m → f.getD s 0 ≤ f.getD (s ||| bit i) 0
def Mono (f : List Int) : Prop := ∀ s, s < f.length → ∀ t, t < s → t ||| s = s → f.getD t 0 ≤ f.getD s 0
theorem le_of_sub {s t : Nat} (h : t ||| s = s) : t ≤ s := by rw [← h]; exact Nat.left_le_or
theorem mono_iff {f : List Int} {m : Nat} (hm : m ≤ 8) (hl : f.length = bit m) : Mono f ↔ MonoL f m := by
  have hb := bit_le m hm
  constructor
  · intro h s hs i hi
    by_cases hsi : s.testBit i = true
    · have : s ||| bit i = s := by
        rw [Nat.or_comm, or_eq_iff]
        intro j hj
        rw [testBit_bit] at hj
        have : i = j := by simpa using hj
        subst this; exact hsi
      rw [this]; omega
    · have hsi' : s.testBit i = false := by simpa using hsi
      have h1 : s ||| bit i < f.length := by rw [hl] at hs ⊢; exact or_lt_bit hs (bit_lt_bit hi)
      have h2 := or_bit s i (by omega) (by omega) hsi'
      have h3 : 0 < bit i := by unfold bit; exact Nat.two_pow_pos i
      exact h _ h1 s (by omega) (by rw [← Nat.or_assoc, Nat.or_self])
  · intro h s
    induction s using Nat.strongRecOn with
    | _ s ih =>
    intro hs t ht hts
    have hst : ¬ sub s t := fun g => by
      have := or_eq_iff.2 g
      rw [Nat.or_comm] at this
      rw [this] at hts; omega
    obtain ⟨k, hk1, hk2⟩ := exists_diff hst
    have hkm : k < m := lt_m_of_testBit (by omega) hk1
    have hlt := nand_bit_lt (by omega) (by omega) hk1
    have h1 := h (nand s (bit k)) (by omega) k hkm
    rw [nand_or_bit hk1] at h1
    have hsub : t ||| nand s (bit k) = nand s (bit k) := by
      rw [or_eq_iff] at hts ⊢
      intro i hi
      rw [nand_testBit_bit, hts i hi]
      by_cases c : k = i
      · subst c; rw [hk2] at hi; cases hi
      · simp [c]
    have hle := le_of_sub hsub
    by_cases e : t = nand s (bit k)
    · rw [e]; exact h1
    · have := ih _ hlt (by omega) t (by omega) hsub
      omega

/-- the next set within s below t -/
theorem below_sub {s t x : Nat} (ht : t &&& s = t) (hx : x &&& s = x) (h : x < t) : x ≤ (t - 1) &&& s := by
  induction t using Nat.strongRecOn generalizing s x with
  | _ t ih =>
  by_cases hodd : t % 2 = 1
  · have : (t - 1) &&& s = t - 1 := by
      apply Nat.eq_of_testBit_eq
      intro i
      rw [Nat.testBit_and]
      cases hi : (t-1).testBit i
      · rfl
      · have h1 : t.testBit i = true := by
          cases i with
          | zero => simp only [Nat.testBit_zero] at hi ⊢; have := of_decide_eq_true hi; omega
          | succ i =>
            rw [Nat.testBit_succ] at hi ⊢
            rwa [show (t - 1) / 2 = t / 2 by omega] at hi
        rw [← ht, Nat.testBit_and] at h1
        have : s.testBit i = true := by
          cases hs : s.testBit i
          · rw [hs] at h1; simp at h1
          · rfl
        simp [this]
    omega
  · have h1 := ih (t / 2) (by omega) (s := s / 2) (x := x / 2) (by rw [← Nat.and_div_two, ht]) (by rw [← Nat.and_div_two, hx]) (by omega)
    have h2 : ((t - 1) &&& s) / 2 = (t / 2 - 1) &&& (s / 2) := by rw [Nat.and_div_two, show (t - 1) / 2 = t / 2 - 1 by omega]
    have h3 : x % 2 = 1 → ((t - 1) &&& s) % 2 = 1 := by
      intro hx1
      have hs1 : s.testBit 0 = true := by
        have hx0 : x.testBit 0 = true := by simp [hx1]
        rw [← hx, Nat.testBit_and] at hx0
        cases hs : s.testBit 0
        · rw [hs] at hx0; simp at hx0
        · rfl
      have ht1 : (t - 1).testBit 0 = true := by simp; omega
      have : ((t - 1) &&& s).testBit 0 = true := by rw [Nat.testBit_and, ht1, hs1]; rfl
      simpa using this
    omega
theorem pred_sub_lt {s t : Nat} (h : t ≠ 0) : (t - 1) &&& s < t := Nat.lt_of_le_of_lt Nat.and_le_left (by omega)
theorem pred_sub_sub (s t : Nat) : ((t - 1) &&& s) &&& s = (t - 1) &&& s := by rw [Nat.and_assoc, Nat.and_self]
theorem or_iff_and {a b : Nat} : a ||| b = b ↔ a &&& b = a := by
  rw [or_eq_iff]
  constructor
  · intro h
    apply Nat.eq_of_testBit_eq
    intro i
    rw [Nat.testBit_and]
    cases hi : a.testBit i
    · rfl
    · simp [h i hi]
  · intro h i hi
    rw [← h, Nat.testBit_and] at hi
    cases hb : b.testBit i
    · rw [hb] at hi; simp at hi
    · rfl

/-- the sets within s above t are no greater than the function says -/
def fitAbove (f : List Int) (s t : Nat) : Prop := ∀ x, x ≤ s → x &&& s = x → t < x → (sz x : Int) ≤ f.getD x 0
theorem fit_start (f : List Int) (s : Nat) : fitAbove f s s := fun x h _ g => by omega
theorem fit_step {f : List Int} {s t : Nat} (hts : t &&& s = t) (h : fitAbove f s t) (g : (sz t : Int) ≤ f.getD t 0) : fitAbove f s ((t - 1) &&& s) := by
  intro x hx hxs hlt
  by_cases c : t < x
  · exact h x hx hxs c
  · by_cases e : x = t
    · subst e; exact g
    · have := below_sub hts hxs (by omega)
      omega
theorem fit_end (f : List Int) (s : Nat) : fitAbove f s 0 ↔ indep f s = true := by
  unfold indep
  rw [decide_eq_true_iff]
  constructor
  · intro h t ht h1 hts
    exact h t (by omega) (or_iff_and.1 hts) (by omega)
  · intro h x hx hxs h0
    exact h x (by omega) (by omega) (or_iff_and.2 hxs)
theorem fit_no {f : List Int} {s t : Nat} (h0 : t ≠ 0) (hts : t &&& s = t) (g : ¬ (sz t : Int) ≤ f.getD t 0) : indep f s = false := by
  unfold indep
  rw [decide_eq_false_iff_not]
  intro h
  have hle : t ≤ s := by rw [← hts]; exact Nat.and_le_right
  exact g (h t (by omega) (by omega) (or_iff_and.2 hts))

/-- what is wrong with a function that a matroid is to be made of -/
def IndIs (f : List Int) (e k : Int) : Prop := (e ≠ 0 → k = e) ∧ (e = 0 → Mono f → k = 0) ∧ (e = 0 → ¬ Mono f → k = 3)
theorem IndIs.ex (f : List Int) (e : Int) : ∃ k, IndIs f e k := by
  by_cases h : e = 0
  · by_cases g : Mono f
    · exact ⟨0, fun x => absurd h x, fun _ _ => rfl, fun _ x => absurd g x⟩
    · exact ⟨3, fun x => absurd h x, fun _ x => absurd x g, fun _ _ => rfl⟩
  · exact ⟨e, fun _ => rfl, fun x => absurd x h, fun x => absurd x h⟩

end Go.Proofs.Ytffnpokceomncaa
