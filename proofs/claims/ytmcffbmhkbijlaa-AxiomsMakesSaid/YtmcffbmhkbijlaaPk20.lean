
/-
  slices.IndexFunc, slices.ContainsFunc over lists of numbers, at function values that tell; rows of the call's own, written at a place.
  The lattice of flats, plainly: broken circuits; what covers a flat; chains from the least flat to all, counted from below and from above.
  flats.Broken.
-/
import Derived.Test.YtmcffbmhkbijlaaPk13
import Derived.Test.YtmcffbmhkbijlaaPk02
import Derived.Test.YtmcffbmhkbijlaaPk06
import Derived.Test.YtmcffbmhkbijlaaPk17
import Derived.Test.YtmcffbmhkbijlaaPk19
namespace Go.Proofs.Ytmcffbmhkbijlaa
open Go.RowKit
set_option linter.unusedVariables false

/-- a function value that tells of a list's elements whether they are of a kind, in whatever later world -/
def TellsE (B : Nat) (W : World) (k : FuncId) (caps : Array Value) (l : List Int) (p : Int → Bool) : Prop :=
  ∀ (v : Later B W) (i : Nat), i < l.length → Calls Try.prog k (#[.int .i64 (l.getD i 0)] ++ caps) v.val (Ret B W (.bool (p (l.getD i 0))))

theorem any_getI {l : List Int} {p : Int → Bool} : l.any p = true ↔ ∃ i, i < l.length ∧ p (l.getD i 0) = true := by
  rw [List.any_eq_true]
  constructor
  · rintro ⟨x, hx, h⟩
    obtain ⟨i, hi, e⟩ := List.getElem_of_mem hx
    exact ⟨i, hi, by simpa [hi, e] using h⟩
  · rintro ⟨i, hi, h⟩
    exact ⟨l.getD i 0, by simp [hi], h⟩

set_option maxRecDepth 100000 in
set_option maxHeartbeats 2000000 in
theorem c_indexFunc {B : Nat} {W : World} (u : Later B W) (l : List Int) (a : Option Addr) (cap : Nat) (h : IntsAt B W a l) (hlen : l.length ≤ 4611686018427387904) (k : FuncId) (caps : Array Value) (p : Int → Bool) (hpl : Plain k) (hk : TellsE B W k caps l p) :
    Calls Try.prog 53 #[.slice a l.length cap, .func (.func k) #[] caps] u.val (RetP B W (fun v w => ∃ r : Int, v = .int .i64 r ∧ decide (0 ≤ r) = l.any p)) := by
  have HI := Lib.hid h
  have HK := Lib.hid hk
  have hp1 : ∀ (args : Array Value) (w : World), (callFunc k args).run Try.prog w = .ok (.enter k args) w := hpl
  clear h hk
  go_enter Try.func53, Try.ntmps53
  go_wp2
  go_loopw [8] (fun i wr => ∃ (s : Nat) (v : Later B W), s ≤ l.length ∧ i = .int .i64 s ∧ wr = v.val ∧ Hid (∀ i, i < s → p (l.getD i 0) = false)) (fun i _ => l.length - (intOf i).toNat)
  case atStart => exact ⟨0, u, by omega, rfl, rfl, Lib.hid (fun i hi => by omega)⟩
  case round =>
    obtain ⟨s, v, hs, rfl, rfl, hf⟩ := hrel
    by_cases hlt : s < l.length
    · obtain ⟨b, off, rfl, hbB, hcell⟩ := HI.out.at hlt
      have c0 : ∀ v : Later B W, v.val.cell? ⟨b, off + s, none⟩ = some (.int .i64 (l.getD s 0)) := fun v => hcell v s hlt
      have K := Lib.hid (HK.out v s hlt)
      have HX : Hid (p (l.getD s 0) = true → decide (0 ≤ (s : Int)) = l.any p) := Lib.hid (fun h => by
        rw [any_getI.2 ⟨s, hlt, h⟩]; simp)
      have HY : Hid (p (l.getD s 0) = false → ∀ i, i < s + 1 → p (l.getD i 0) = false) := Lib.hid (fun h i hi => by
        by_cases e : i = s
        · subst e; exact h
        · exact hf.out i (by omega))
      clear hcell hf
      generalize l.getD s 0 = x at *
      rcases btf (p x) with g1 | g1
      · rw [g1] at K
        have HE := Lib.hid (HX.out g1)
        clear g1 HX HY
        have c0' := c0 v
        go_wp2_with (first | (refine (K.out).mono ?_; rintro e _ ⟨rfl, v2, rfl⟩))
        go_ret
        exact RetP.mk v2 ⟨_, rfl, HE.out⟩
      · rw [g1] at K
        have HN := Lib.hid (HY.out g1)
        clear g1 HX HY
        have c0' := c0 v
        go_wp2_with (first | (refine (K.out).mono ?_; rintro e _ ⟨rfl, v2, rfl⟩))
        go_roundw
        case rel => exact ⟨s+1, v2, by omega, by go_num, rfl, HN⟩
        case measure => simp [intOf]; omega
    · have HE : Hid (decide (0 ≤ (-1 : Int)) = l.any p) := Lib.hid (by
        cases c : l.any p
        · decide
        · obtain ⟨i, h1, h2⟩ := any_getI.1 c
          rw [hf.out i (by omega)] at h2; cases h2)
      go_wp2
      go_ret
      exact RetP.mk v ⟨_, rfl, HE.out⟩
set_option maxRecDepth 100000 in
set_option maxHeartbeats 2000000 in
theorem c_containsFunc {B : Nat} {W : World} (u : Later B W) (l : List Int) (a : Option Addr) (cap : Nat) (h : IntsAt B W a l) (hlen : l.length ≤ 4611686018427387904) (k : FuncId) (caps : Array Value) (p : Int → Bool) (hpl : Plain k) (hk : TellsE B W k caps l p) :
    Calls Try.prog 24 #[.slice a l.length cap, .func (.func k) #[] caps] u.val (Ret B W (.bool (l.any p))) := by
  have K := Lib.hid (c_indexFunc u l a cap h hlen k caps p hpl hk)
  clear h hk
  go_enter Try.func24, Try.ntmps24
  go_wp2_with (first | (go_at_call 53; (with_reducible refine (K.out).mono ?_); rintro e _ ⟨_, rfl, ⟨r, rfl, hr⟩, v, rfl⟩; have HR := Lib.hid hr; clear hr))
  go_ret
  exact Ret.mk v (vbool HR.out)

/-- a write at a place of a row of the call's own -/
theorem Own.put {B : Nat} {w : World} {g cap : Nat} {xs : List Int} (h : Own B w (some ⟨g, 0, none⟩) cap xs) {i : Nat} (hi : i < xs.length) (x : Int) : Own B (w.setCell ⟨g, i, none⟩ (.int .i64 x)) (some ⟨g, 0, none⟩) cap (xs.set i x) := by
  rcases h.2 with ⟨e, hn⟩ | ⟨g', c, cur, e, h1, h2, h3, h4, h5, h6⟩
  · cases e
  · simp only [Value.slice.injEq, Option.some.injEq, Addr.mk.injEq] at e
    obtain ⟨⟨e1, _⟩, _, e3⟩ := e
    subst e1; subst e3
    refine ⟨by simp, .inr ⟨g, cap, cur.setIfInBounds i (.int .i64 x), by simp, h1, ?_, by simpa using h3, h4, by simpa using h5, ?_⟩⟩
    · have h' : w.heap[g]? = _ := h2
      simp only [World.setCell, Array.getElem?_modify, h']
      simp
    · rw [Nat.mul_one] at h6 ⊢
      rw [List.length_set, Array.toList_setIfInBounds, List.map_set, ← h6, List.take_set]
theorem Own.cellAt {B : Nat} {w : World} {g cap : Nat} {xs : List Int} (h : Own B w (some ⟨g, 0, none⟩) cap xs) {i : Nat} (hi : i < xs.length) : w.cell? ⟨g, i, none⟩ = some (.int .i64 (xs.getD i 0)) := by
  obtain ⟨b, off, e, _, hc⟩ := h.reads (by rintro rfl; simp at hi)
  simp only [Option.some.injEq, Addr.mk.injEq] at e
  obtain ⟨rfl, rfl, _⟩ := e
  have := hc i hi
  rwa [Nat.zero_add] at this
theorem Own.fz {B : Nat} {w : World} {g cap : Nat} {xs : List Int} (h : Own B w (some ⟨g, 0, none⟩) cap xs) (i : Nat) : w.frozen? ⟨g, i, none⟩ = false := by
  rcases h.2 with ⟨e, hn⟩ | ⟨g', c, cur, e, h1, h2, h3, h4, h5, h6⟩
  · cases e
  · simp only [Value.slice.injEq, Option.some.injEq, Addr.mk.injEq] at e
    obtain ⟨⟨e1, _⟩, _⟩ := e
    subst e1
    have h' : w.heap[g]? = _ := h2
    unfold World.frozen?
    rw [h']; simp
theorem Own.base {B : Nat} {w : World} {g cap : Nat} {xs : List Int} (h : Own B w (some ⟨g, 0, none⟩) cap xs) : B ≤ g := by
  rcases h.2 with ⟨e, hn⟩ | ⟨g', c, cur, e, h1, h2, h3, h4, h5, h6⟩
  · cases e
  · simp only [Value.slice.injEq, Option.some.injEq, Addr.mk.injEq] at e
    obtain ⟨⟨e1, _⟩, _⟩ := e
    subst e1
    exact h1
theorem tabL_set (n : Nat) (A A' : Nat → Int) {i : Nat} (hi : i < n) (v : Int) (e : ∀ j, j < n → A' j = if j = i then v else A j) : (tabL n A).set i v = tabL n A' := by
  apply List.ext_getElem
  · simp [tabL]
  · intro j h1 h2
    have hj : j < n := by simpa [tabL] using h2
    simp only [tabL, List.getElem_set, List.getElem_map, List.getElem_range]
    rw [e j hj]
    by_cases c : j = i
    · subst c; simp
    · rw [if_neg (Ne.symm c), if_neg c]



end Go.Proofs.Ytmcffbmhkbijlaa

namespace Go.Proofs.Ytmcffbmhkbijlaa
set_option linter.unusedVariables false

/-! ### sums, more -/
theorem isum_mulP (c : Int) (f : Nat → Int) (n : Nat) : isum (fun i => c * f i) n = c * isum f n := by
  induction n with
  | zero => simp [isum]
  | succ n ih => simp only [isum]; rw [ih, Int.mul_add]
theorem isum_nn {f : Nat → Int} {n : Nat} (h : ∀ i, i < n → 0 ≤ f i) : 0 ≤ isum f n := by
  induction n with
  | zero => exact Int.le_refl _
  | succ n ih => have := ih (fun i hi => h i (by omega)); have := h n (by omega); simp only [isum]; omega
theorem isum_mono {f g : Nat → Int} {n : Nat} (h : ∀ i, i < n → f i ≤ g i) : isum f n ≤ isum g n := by
  induction n with
  | zero => exact Int.le_refl _
  | succ n ih => have := ih (fun i hi => h i (by omega)); have := h n (by omega); simp only [isum]; omega
theorem isum_term {f : Nat → Int} {n x : Nat} (h : ∀ i, i < n → 0 ≤ f i) (hx : x < n) : f x ≤ isum f n := by
  induction n with
  | zero => omega
  | succ n ih =>
    simp only [isum]
    by_cases c : x = n
    · subst c; have := isum_nn (fun i hi => h i (by omega) : ∀ i, i < x → 0 ≤ f i); omega
    · have := ih (fun i hi => h i (by omega)) (by omega); have := h n (by omega); omega

/-! ### broken circuits -/
/-- a set that has none of some circuits but for their least elements -/
def brokP (C : List Nat) (s : Nat) : Bool := C.all (fun c => !decide (drop1 c ||| s = s))

theorem or_iff_and' {a b : Nat} : a ||| b = b ↔ a &&& b = a := by
  constructor
  · exact and_eq_left_of
  · intro h
    exact or_eq_iff.2 (fun i hi => by
      rw [← h, Nat.testBit_and] at hi
      simp at hi
      exact hi.2)
theorem rk_nil (L : List Nat) : rk L 0 = 0 := by
  have := rk_le L 0
  rw [sz_zero] at this
  omega
theorem rk_le_m8 (L : List Nat) (s : Nat) : rk L s ≤ 8 := Nat.le_trans (rk_le L s) (sz_le s)
/-! ### covers -/
def covP (m : Nat) (L : List Nat) (f g : Nat) : Bool := flatP m L g && decide (g &&& f = f ∧ rk L g = rk L f + 1)
theorem covP_iff {m : Nat} {L : List Nat} {f g : Nat} : covP m L f g = true ↔ Flat m L g ∧ sub f g ∧ rk L g = rk L f + 1 := by
  unfold covP
  rw [Bool.and_eq_true, flatP_iff, decide_eq_true_eq]
  constructor
  · rintro ⟨h1, h2, h3⟩
    refine ⟨h1, fun i hi => ?_, h3⟩
    rw [← h2, Nat.testBit_and] at hi
    simp at hi
    exact hi.1
  · rintro ⟨h1, h2, h3⟩
    refine ⟨h1, ?_, h3⟩
    rw [Nat.and_comm]
    exact and_eq_left_of (or_eq_iff.2 h2)
/-- what a flat and one of the first k elements more span -/
def aboTo (m : Nat) (L : List Nat) (f : Nat) : Nat → List Nat
  | 0 => []
  | k + 1 => if f.testBit k = true then aboTo m L f k else aboTo m L f k ++ [clo m L (f ||| bit k)]
theorem aboTo_len (m : Nat) (L : List Nat) (f k : Nat) : (aboTo m L f k).length ≤ k := by
  induction k with
  | zero => exact Nat.le_refl _
  | succ k ih =>
    simp only [aboTo]
    split
    · omega
    · simp; exact ih
theorem mem_aboTo {m : Nat} {L : List Nat} {f k x : Nat} : x ∈ aboTo m L f k ↔ ∃ i, i < k ∧ f.testBit i = false ∧ x = clo m L (f ||| bit i) := by
  induction k with
  | zero => simp [aboTo]
  | succ k ih =>
    simp only [aboTo]
    cases h : f.testBit k
    · rw [if_neg (by decide), List.mem_append, List.mem_singleton, ih]
      constructor
      · rintro (⟨i, h1, h2⟩ | rfl)
        · exact ⟨i, by omega, h2⟩
        · exact ⟨k, by omega, h, rfl⟩
      · rintro ⟨i, h1, h2, h3⟩
        by_cases e : i = k
        · subst e; exact .inr h3
        · exact .inl ⟨i, by omega, h2, h3⟩
    · rw [if_pos rfl, ih]
      constructor
      · rintro ⟨i, h1, h2⟩; exact ⟨i, by omega, h2⟩
      · rintro ⟨i, h1, h2, h3⟩
        by_cases e : i = k
        · subst e; rw [h] at h2; cases h2
        · exact ⟨i, by omega, h2, h3⟩

section
variable {m r : Nat} {L : List Nat} (hm : m ≤ 8) (hne : L ≠ []) (hF : Fam8 L r) (hE : Exch L)
include hm hne hF hE
/-- a flat within another one of its rank is that one -/
theorem flat_rank_eq {f g : Nat} (hf : f < bit m) (hg : g < bit m) (hfl : Flat m L f) (h : sub f g) (hr : rk L g ≤ rk L f) : f = g := by
  have _ := hE
  have _ := hF
  have _ := hm
  refine sub_antisymm h (fun i hi => ?_)
  cases c : f.testBit i
  · exfalso
    have h1 := rk_mono hne (sub_or_left f (bit i))
    have h2 := hfl i (lt_m_of_testBit hg hi) c
    have h3 : rk L (f ||| bit i) ≤ rk L g := rk_mono hne (fun k hk => by
      rw [or_bit_testBit, Bool.or_eq_true, decide_eq_true_eq] at hk
      rcases hk with hk | hk
      · exact h k hk
      · subst hk; exact hi)
    omega
  · rfl
theorem cov_clo {f i : Nat} (hf : f < bit m) (hfl : Flat m L f) (hi : i < m) (hfi : f.testBit i = false) : covP m L f (clo m L (f ||| bit i)) = true := by
  have hb := bit_le m hm
  have hfb := or_lt_bit hf (bit_lt_bit hi)
  refine covP_iff.2 ⟨clo_flat hm hne hF hE hfb, fun k hk => clo_sup m L _ k (sub_or_left f (bit i) k hk), ?_⟩
  rw [rk_clo hm hne hF hE hfb]
  have h1 := rk_step hne f i (by omega)
  have h2 := hfl i hi hfi
  have h3 := rk_mono hne (sub_or_left f (bit i))
  omega
theorem clo_cov {f g : Nat} (hf : f < bit m) (hfl : Flat m L f) (hg : g < bit m) (h : covP m L f g = true) : ∃ i, i < m ∧ f.testBit i = false ∧ g = clo m L (f ||| bit i) := by
  have hb := bit_le m hm
  obtain ⟨h1, h2, h3⟩ := covP_iff.1 h
  obtain ⟨i, hi1, hi2⟩ : ∃ i, g.testBit i = true ∧ f.testBit i = false := exists_diff (fun hs => by
    have := sub_antisymm hs h2
    rw [this] at h3; omega)
  have him := lt_m_of_testBit hg hi1
  have hfb := or_lt_bit hf (bit_lt_bit him)
  refine ⟨i, him, hi2, ?_⟩
  have h4 : sub (f ||| bit i) g := fun k hk => by
    rw [or_bit_testBit, Bool.or_eq_true, decide_eq_true_eq] at hk
    rcases hk with hk | hk
    · exact h2 k hk
    · subst hk; exact hi1
  have h5 := clo_min hm hne hF hE hfb hg h1 h4
  have h6 := clo_flat hm hne hF hE hfb
  have h7 := rk_clo hm hne hF hE hfb
  refine (flat_rank_eq hm hne hF hE (clo_lt L hfb) hg h6 h5 ?_).symm
  have h8 : rk L f ≤ rk L (f ||| bit i) := rk_mono hne (sub_or_left _ _)
  have h9 := hfl i him hi2
  omega
theorem above_same {f : Nat} (hf : f < bit m) (hfl : Flat m L f) : those m (fun s => decide (s ∈ aboTo m L f m)) = those m (covP m L f) := those_mem_eq (fun s hs => by
  rw [decide_eq_true_eq, mem_aboTo]
  constructor
  · rintro ⟨i, h1, h2, rfl⟩
    exact cov_clo hm hne hF hE hf hfl h1 h2
  · intro h
    obtain ⟨i, h1, h2, h3⟩ := clo_cov hm hne hF hE hf hfl hs h
    exact ⟨i, h1, h2, h3⟩)
end

/-! ### chains -/
/-- from a flat up to all, in d steps -/
def dnF (m : Nat) (L : List Nat) : Nat → Nat → Int
  | 0, _ => 1
  | d + 1, f => isum (fun j => dnF m L d ((those m (covP m L f)).getD j 0)) (those m (covP m L f)).length
/-- from the least flat up to one, of rank d -/
def upF (m : Nat) (L : List Nat) : Nat → Nat → Int
  | 0, _ => 1
  | d + 1, g => isum (fun x => if flatP m L x = true ∧ x &&& g = x ∧ rk L x = d then upF m L d x else 0) (bit m)
theorem dnF_step (m : Nat) (L : List Nat) (d f : Nat) : dnF m L (d + 1) f = isum (fun y => if covP m L f y = true then dnF m L d y else 0) (bit m) := those_sum m (covP m L f) (fun y => dnF m L d y)
theorem upF_nn (m : Nat) (L : List Nat) : ∀ d g, 0 ≤ upF m L d g
  | 0, _ => by show (0 : Int) ≤ 1; decide
  | d + 1, g => isum_nn (fun x _ => by
    show (0 : Int) ≤ if _ then _ else _
    split
    · exact upF_nn m L d x
    · exact Int.le_refl _)
theorem dnF_nn (m : Nat) (L : List Nat) : ∀ d g, 0 ≤ dnF m L d g
  | 0, _ => by show (0 : Int) ≤ 1; decide
  | d + 1, g => isum_nn (fun x _ => dnF_nn m L d _)

theorem all_flat (m : Nat) (L : List Nat) : Flat m L (bit m - 1) := fun i hi h => by rw [testBit_all] at h; simp at h; omega
theorem pow8 : ∀ d : Nat, d ≤ 8 → (8 ^ d : Nat) ≤ 16777216 := fun d hd => by
  have : ∀ d : Fin 9, (8 ^ d.val : Nat) ≤ 16777216 := by decide
  exact this ⟨d, by omega⟩

section
variable {m r : Nat} {L : List Nat} (hm : m ≤ 8) (hne : L ≠ []) (hF : Fam8 L r) (hE : Exch L)
include hm hne hF hE
theorem dnF_le : ∀ d f, f < bit m → Flat m L f → dnF m L d f ≤ ((8 ^ d : Nat) : Int)
  | 0, _, _, _ => by show (1 : Int) ≤ _; decide
  | d + 1, f, hf, hfl => by
    rw [dnF_step]
    have h1 : isum (fun y => if covP m L f y = true then dnF m L d y else 0) (bit m) ≤ isum (fun y => isum (fun i => if y = clo m L (f ||| bit i) then ((8 ^ d : Nat) : Int) else 0) m) (bit m) := isum_mono (fun y hy => by
      have hnn : ∀ i, i < m → 0 ≤ (fun i => if y = clo m L (f ||| bit i) then ((8 ^ d : Nat) : Int) else 0) i := fun i _ => by
        show (0 : Int) ≤ if _ then _ else _
        split
        · exact Int.natCast_nonneg _
        · exact Int.le_refl _
      show (if _ then _ else _) ≤ _
      split
      · rename_i c
        obtain ⟨i, hi, _, e⟩ := clo_cov hm hne hF hE hf hfl hy c
        have h2 := dnF_le d y hy (covP_iff.1 c).1
        have h3 := isum_term hnn hi
        have h4 : (if y = clo m L (f ||| bit i) then ((8 ^ d : Nat) : Int) else 0) = ((8 ^ d : Nat) : Int) := if_pos e
        have h5 : (if y = clo m L (f ||| bit i) then ((8 ^ d : Nat) : Int) else 0) ≤ isum (fun i => if y = clo m L (f ||| bit i) then ((8 ^ d : Nat) : Int) else 0) m := h3
        rw [h4] at h5
        exact Int.le_trans h2 h5
      · exact isum_nn hnn)
    rw [isum_swap] at h1
    have h2 : isum (fun i => isum (fun y => if y = clo m L (f ||| bit i) then ((8 ^ d : Nat) : Int) else 0) (bit m)) m ≤ ((m * 8 ^ d : Nat) : Int) := (isum_le (b := 8 ^ d) (fun i hi => by
      have e : isum (fun y => if y = clo m L (f ||| bit i) then ((8 ^ d : Nat) : Int) else 0) (bit m) = ((8 ^ d : Nat) : Int) := isum_pick (g := fun _ => ((8 ^ d : Nat) : Int)) (clo_lt L (or_lt_bit hf (bit_lt_bit hi)))
      rw [e]
      have := Int.natCast_nonneg (8 ^ d)
      exact ⟨by omega, Int.le_refl _⟩)).2
    have h3 : m * 8 ^ d ≤ 8 ^ (d + 1) := by
      rw [Nat.pow_succ, Nat.mul_comm (8 ^ d) 8]
      exact Nat.mul_le_mul_right _ hm
    exact Int.le_trans h1 (Int.le_trans h2 (Int.ofNat_le.2 h3))
theorem dnF_pos : ∀ d f, f < bit m → Flat m L f → rk L f + d = rk L (bit m - 1) → 1 ≤ dnF m L d f
  | 0, _, _, _, _ => Int.le_refl _
  | d + 1, f, hf, hfl, hd => by
    have hb := bit_le m hm
    obtain ⟨i, hi1, hi2⟩ : ∃ i, (bit m - 1).testBit i = true ∧ f.testBit i = false := exists_diff (fun hs => by
      have := rk_mono hne hs
      omega)
    rw [testBit_all] at hi1
    have him : i < m := by simpa using hi1
    have hc := cov_clo hm hne hF hE hf hfl him hi2
    have hx := clo_lt L (or_lt_bit hf (bit_lt_bit him))
    obtain ⟨c1, _, c3⟩ := covP_iff.1 hc
    have h1 := dnF_pos d _ hx c1 (by omega)
    rw [dnF_step]
    have h2 := isum_term (f := fun y => if covP m L f y = true then dnF m L d y else 0) (n := bit m) (fun y _ => by
      show (0 : Int) ≤ if _ then _ else _
      split
      · exact dnF_nn m L d y
      · exact Int.le_refl _) hx
    have h3 : (if covP m L f (clo m L (f ||| bit i)) = true then dnF m L d (clo m L (f ||| bit i)) else 0) = dnF m L d (clo m L (f ||| bit i)) := if_pos hc
    have h4 : (if covP m L f (clo m L (f ||| bit i)) = true then dnF m L d (clo m L (f ||| bit i)) else 0) ≤ isum (fun y => if covP m L f y = true then dnF m L d y else 0) (bit m) := h2
    omega
/-- over all flats of rank j: chains from below times chains from above -/
def mid (m : Nat) (L : List Nat) (j d : Nat) : Int := isum (fun x => if flatP m L x = true ∧ rk L x = j then upF m L j x * dnF m L d x else 0) (bit m)
theorem mid_step (j d : Nat) : mid m L j (d + 1) = mid m L (j + 1) d := by
  have _ := hm
  have _ := hne
  have _ := hF
  have _ := hE
  unfold mid
  have e1 : isum (fun x => if flatP m L x = true ∧ rk L x = j then upF m L j x * dnF m L (d + 1) x else 0) (bit m) = isum (fun x => isum (fun y => if (flatP m L x = true ∧ rk L x = j) ∧ covP m L x y = true then upF m L j x * dnF m L d y else 0) (bit m)) (bit m) := isum_congr (fun x _ => by
    by_cases c : flatP m L x = true ∧ rk L x = j
    · rw [if_pos c, dnF_step, ← isum_mulP]
      refine isum_congr (fun y _ => ?_)
      by_cases c2 : covP m L x y = true
      · rw [if_pos c2, if_pos ⟨c, c2⟩]
      · rw [if_neg c2, if_neg (fun h => c2 h.2), Int.mul_zero]
    · rw [if_neg c]
      exact (isum_zero (fun y _ => if_neg (fun h => c h.1))).symm)
  have e2 : isum (fun y => if flatP m L y = true ∧ rk L y = j + 1 then upF m L (j + 1) y * dnF m L d y else 0) (bit m) = isum (fun y => isum (fun x => if (flatP m L x = true ∧ rk L x = j) ∧ covP m L x y = true then upF m L j x * dnF m L d y else 0) (bit m)) (bit m) := isum_congr (fun y _ => by
    by_cases c : flatP m L y = true ∧ rk L y = j + 1
    · rw [if_pos c, Int.mul_comm]
      show dnF m L d y * isum (fun x => if flatP m L x = true ∧ x &&& y = x ∧ rk L x = j then upF m L j x else 0) (bit m) = _
      rw [← isum_mulP]
      refine isum_congr (fun x _ => ?_)
      by_cases c2 : flatP m L x = true ∧ x &&& y = x ∧ rk L x = j
      · have c3 : covP m L x y = true := covP_iff.2 ⟨flatP_iff.1 c.1, or_eq_iff.1 (by
          have := c2.2.1
          exact or_iff_and'.2 this), by omega⟩
        rw [if_pos c2, if_pos ⟨⟨c2.1, c2.2.2⟩, c3⟩, Int.mul_comm]
      · rw [if_neg c2, if_neg (fun h => c2 ⟨h.1.1, and_eq_left_of (or_eq_iff.2 (covP_iff.1 h.2).2.1), h.1.2⟩), Int.mul_zero]
    · rw [if_neg c]
      exact (isum_zero (fun x _ => if_neg (fun h => c ⟨flatP_iff.2 (covP_iff.1 h.2).1, by have := (covP_iff.1 h.2).2.2; omega⟩))).symm)
  rw [e1, e2, isum_swap]
theorem mid_all : ∀ j d, mid m L j d = mid m L 0 (j + d)
  | 0, d => by rw [Nat.zero_add]
  | j + 1, d => by
    rw [← mid_step hm hne hF hE j d, mid_all j (d + 1)]
    congr 1
    omega
theorem mid_zero (d : Nat) : mid m L 0 d = dnF m L d (clo m L 0) := by
  have hb := bit_le m hm
  have hc := clo_lt (m := m) L (s := 0) (by omega)
  have hfl := clo_flat hm hne hF hE (s := 0) (by omega)
  have hrk := rk_clo hm hne hF hE (s := 0) (by omega)
  rw [rk_nil] at hrk
  unfold mid
  have e : isum (fun x => if flatP m L x = true ∧ rk L x = 0 then upF m L 0 x * dnF m L d x else 0) (bit m) = isum (fun x => if x = clo m L 0 then dnF m L d x else 0) (bit m) := isum_congr (fun x hx => by
    by_cases c : x = clo m L 0
    · subst c
      rw [if_pos ⟨flatP_iff.2 hfl, hrk⟩, if_pos rfl]
      show 1 * _ = _
      rw [Int.one_mul]
    · rw [if_neg c, if_neg]
      rintro ⟨h1, h2⟩
      have h3 := clo_min hm hne hF hE (s := 0) (by omega) hx (flatP_iff.1 h1) (fun i hi => by simp at hi)
      exact c (flat_rank_eq hm hne hF hE hc hx hfl h3 (by omega)).symm)
  rw [e, isum_pick hc]
theorem mid_top (hR : ∀ s, s < bit m → rk L s ≤ rk L (bit m - 1)) : mid m L (rk L (bit m - 1)) 0 = upF m L (rk L (bit m - 1)) (bit m - 1) := by
  have hb := bit_le m hm
  have _ := hR
  unfold mid
  have e : isum (fun x => if flatP m L x = true ∧ rk L x = rk L (bit m - 1) then upF m L (rk L (bit m - 1)) x * dnF m L 0 x else 0) (bit m) = isum (fun x => if x = bit m - 1 then upF m L (rk L (bit m - 1)) x else 0) (bit m) := isum_congr (fun x hx => by
    by_cases c : x = bit m - 1
    · subst c
      rw [if_pos ⟨flatP_iff.2 (all_flat m L), rfl⟩, if_pos rfl]
      show _ * 1 = _
      rw [Int.mul_one]
    · rw [if_neg c, if_neg]
      rintro ⟨h1, h2⟩
      refine c (flat_rank_eq hm hne hF hE hx (by omega) (flatP_iff.1 h1) (fun i hi => ?_) (by omega))
      rw [testBit_all]
      have := lt_m_of_testBit hx hi
      simpa using this)
  rw [e, isum_pick (g := fun x => upF m L (rk L (bit m - 1)) x) (by omega)]
/-- as many from below as from above -/
theorem up_dn (hR : ∀ s, s < bit m → rk L s ≤ rk L (bit m - 1)) : upF m L (rk L (bit m - 1)) (bit m - 1) = dnF m L (rk L (bit m - 1)) (clo m L 0) := by
  rw [← mid_top hm hne hF hE hR, mid_all hm hne hF hE, mid_zero hm hne hF hE]
  rfl
theorem upF_le {g : Nat} (hg : g < bit m) (hfl : Flat m L g) (hR : ∀ s, s < bit m → rk L s ≤ rk L (bit m - 1)) : upF m L (rk L g) g ≤ 16777216 := by
  have hb := bit_le m hm
  have h0 := hR g hg
  have h8 := rk_le_m8 L (bit m - 1)
  have h1 := dnF_pos hm hne hF hE (rk L (bit m - 1) - rk L g) g hg hfl (by omega)
  have h2 : upF m L (rk L g) g * dnF m L (rk L (bit m - 1) - rk L g) g ≤ mid m L (rk L g) (rk L (bit m - 1) - rk L g) := by
    unfold mid
    have := isum_term (f := fun x => if flatP m L x = true ∧ rk L x = rk L g then upF m L (rk L g) x * dnF m L (rk L (bit m - 1) - rk L g) x else 0) (n := bit m) (fun x _ => by
      show (0 : Int) ≤ if _ then _ else _
      split
      · exact Int.mul_nonneg (upF_nn _ _ _ _) (dnF_nn _ _ _ _)
      · exact Int.le_refl _) hg
    have e : (if flatP m L g = true ∧ rk L g = rk L g then upF m L (rk L g) g * dnF m L (rk L (bit m - 1) - rk L g) g else 0) = upF m L (rk L g) g * dnF m L (rk L (bit m - 1) - rk L g) g := if_pos ⟨flatP_iff.2 hfl, rfl⟩
    rw [← e]
    exact this
  rw [mid_all hm hne hF hE, mid_zero hm hne hF hE] at h2
  have h3 := dnF_le hm hne hF hE (rk L g + (rk L (bit m - 1) - rk L g)) (clo m L 0) (clo_lt L (by omega)) (clo_flat hm hne hF hE (by omega))
  have h4 := pow8 (rk L g + (rk L (bit m - 1) - rk L g)) (by omega)
  have h5 := upF_nn m L (rk L g) g
  have h6 : upF m L (rk L g) g * 1 ≤ upF m L (rk L g) g * dnF m L (rk L (bit m - 1) - rk L g) g := Int.mul_le_mul_of_nonneg_left h1 h5
  rw [Int.mul_one] at h6
  omega
end

def usum (F L : List Nat) (A : Nat → Int) (i k : Nat) : Int := isum (fun j => if F.getD j 0 &&& F.getD i 0 = F.getD j 0 ∧ rk L (F.getD j 0) + 1 = rk L (F.getD i 0) then A j else 0) k
/-- numbers of chains, each made of those ahead of it -/
def UpIs (F L : List Nat) (A : Nat → Int) : Prop := A 0 = 1 ∧ (∀ i, 0 < i → i < F.length → A i = usum F L A i i) ∧ (∀ i, i < F.length → 0 ≤ A i ∧ A i ≤ 16777216) ∧ usum F L A 0 0 = 0
theorem usum_mono {F L : List Nat} {A : Nat → Int} (hA : UpIs F L A) {i k : Nat} (hk : k ≤ i) (hi : i < F.length) : 0 ≤ usum F L A i k ∧ usum F L A i k ≤ 16777216 := by
  have hnn : ∀ k, k ≤ i → 0 ≤ usum F L A i k := fun k hk => isum_nn (fun j hj => by
    show (0 : Int) ≤ if _ then _ else _
    split
    · exact (hA.2.2.1 j (by omega)).1
    · exact Int.le_refl _)
  have hst : ∀ d k, k + d = i → usum F L A i k ≤ usum F L A i i := by
    intro d
    induction d with
    | zero => intro k e; have : k = i := by omega
              subst this; exact Int.le_refl _
    | succ d ih =>
      intro k e
      have h1 := ih (k + 1) (by omega)
      have h2 : usum F L A i k ≤ usum F L A i (k + 1) := by
        unfold usum
        simp only [isum]
        have : (0 : Int) ≤ if F.getD k 0 &&& F.getD i 0 = F.getD k 0 ∧ rk L (F.getD k 0) + 1 = rk L (F.getD i 0) then A k else 0 := by
          split
          · exact (hA.2.2.1 k (by omega)).1
          · exact Int.le_refl _
        omega
      omega
  refine ⟨hnn k hk, ?_⟩
  have h1 := hst (i - k) k (by omega)
  by_cases c : i = 0
  · subst c
    have := hA.2.2.2
    omega
  · have := hA.2.1 i (by omega) hi
    have := (hA.2.2.1 i hi).2
    omega
section
variable {m r : Nat} {L : List Nat} (hm : m ≤ 8) (hne : L ≠ []) (hF : Fam8 L r) (hE : Exch L)
include hm hne hF hE
theorem up_is (hR : ∀ s, s < bit m → rk L s ≤ rk L (bit m - 1)) : UpIs (those m (flatP m L)) L (fun i => upF m L (rk L ((those m (flatP m L)).getD i 0)) ((those m (flatP m L)).getD i 0)) := by
  have hb := bit_le m hm
  have hz := flats_zero hm hne hF hE
  have hn := flats_ne hm hne hF hE
  have hrk := rk_clo hm hne hF hE (s := 0) (by omega)
  rw [rk_nil] at hrk
  refine ⟨?_, fun i h0 hi => ?_, fun i hi => ?_, rfl⟩
  · show upF m L (rk L ((those m (flatP m L)).getD 0 0)) _ = 1
    rw [hz, hrk]; rfl
  · obtain ⟨g1, g2⟩ := those_at hi
    have hpos : rk L ((those m (flatP m L)).getD i 0) ≠ 0 := fun e => by
      have hfl := flatP_iff.1 g2
      have h3 := clo_min hm hne hF hE (s := 0) (by omega) g1 hfl (fun i hi => by simp at hi)
      have h4 := flat_rank_eq hm hne hF hE (clo_lt (m := m) L (s := 0) (by omega)) g1 (clo_flat hm hne hF hE (by omega)) h3 (by omega)
      have h5 := those_rise h0 hi
      rw [hz] at h5
      omega
    obtain ⟨d, hd⟩ : ∃ d, rk L ((those m (flatP m L)).getD i 0) = d + 1 := ⟨_, (Nat.succ_pred_eq_of_ne_zero hpos).symm⟩
    show upF m L (rk L ((those m (flatP m L)).getD i 0)) _ = _
    have e1 : usum (those m (flatP m L)) L (fun i => upF m L (rk L ((those m (flatP m L)).getD i 0)) ((those m (flatP m L)).getD i 0)) i i = usum (those m (flatP m L)) L (fun i => upF m L (rk L ((those m (flatP m L)).getD i 0)) ((those m (flatP m L)).getD i 0)) i (those m (flatP m L)).length := by
      unfold usum
      refine (isum_tail (fun j j1 j2 => if_neg (fun h => ?_)) (by omega)).symm
      by_cases e : j = i
      · subst e; omega
      · have h3 := those_rise (show i < j by omega) j2
        have : (those m (flatP m L)).getD j 0 ≤ (those m (flatP m L)).getD i 0 := by rw [← h.1]; exact Nat.and_le_right
        omega
    rw [e1]
    unfold usum
    rw [those_sum m (flatP m L) (fun x => if x &&& (those m (flatP m L)).getD i 0 = x ∧ rk L x + 1 = rk L ((those m (flatP m L)).getD i 0) then upF m L (rk L x) x else 0), hd]
    refine isum_congr (fun x _ => ?_)
    by_cases c1 : flatP m L x = true
    · by_cases c2 : x &&& (those m (flatP m L)).getD i 0 = x ∧ rk L x = d
      · rw [if_pos ⟨c1, c2⟩, if_pos c1, if_pos ⟨c2.1, by omega⟩, c2.2]
      · rw [if_neg (fun h => c2 h.2), if_pos c1, if_neg (fun h => c2 ⟨h.1, by omega⟩)]
    · rw [if_neg (fun h => c1 h.1), if_neg c1]
  · obtain ⟨g1, g2⟩ := those_at hi
    exact ⟨upF_nn _ _ _ _, upF_le hm hne hF hE g1 (flatP_iff.1 g2) hR⟩
end

end Go.Proofs.Ytmcffbmhkbijlaa

namespace Go.Proofs.Ytmcffbmhkbijlaa
open Go.RowKit
set_option linter.unusedVariables false

theorem drop1_lt' (t : Nat) (ht : t < 256) : drop1 t < 256 := drop1_lt t ht
/-- the list of circuits, its first k struck of their least elements -/
def brkT (C : List Nat) (k j : Nat) : Int := if j < k then ((drop1 (C.getD j 0) : Nat) : Int) else ((C.getD j 0 : Nat) : Int)
theorem brkT_zero (C : List Nat) : tabL C.length (brkT C 0) = ints C := by
  apply List.ext_getElem
  · simp [tabL, ints]
  · intro i h1 h2
    have hi : i < C.length := by simpa [tabL] using h1
    simp [tabL, ints, brkT, hi]
theorem brkT_all (C : List Nat) : tabL C.length (brkT C C.length) = ints (C.map drop1) := by
  apply List.ext_getElem
  · simp [tabL, ints]
  · intro i h1 h2
    have hi : i < C.length := by simpa [tabL] using h1
    simp [tabL, ints, brkT, hi]
theorem brok_any (C : List Nat) (s : Nat) : (ints (C.map drop1)).any (fun x => decide (x.toNat &&& s = x.toNat)) = !brokP C s := by
  rw [Bool.eq_iff_iff, List.any_eq_true, Bool.not_eq_true', ← Bool.not_eq_true]
  unfold brokP
  rw [List.all_eq_true]
  constructor
  · rintro ⟨x, hx, h⟩ hall
    obtain ⟨n, hn, rfl⟩ := List.mem_map.1 hx
    obtain ⟨c, hc, rfl⟩ := List.mem_map.1 hn
    have h1 := hall c hc
    have h2 : drop1 c &&& s = drop1 c := by simpa using h
    rw [or_iff_and'.2 h2] at h1
    simp at h1
  · intro hall
    apply Classical.byContradiction
    intro hno
    apply hall
    intro c hc
    have : ¬ drop1 c ||| s = s := fun h => hno ⟨((drop1 c : Nat) : Int), List.mem_map.2 ⟨_, List.mem_map.2 ⟨c, hc, rfl⟩, rfl⟩, by
      rw [or_iff_and'] at h
      simpa using h⟩
    simp [this]

end Go.Proofs.Ytmcffbmhkbijlaa
