
/-
  Elements that stand for sets: the first such list, taken one by one. No program in sight.
  hall.Stand.
-/
import Derived.Test.YtdhmponbakodmaaDoorPk16
import Derived.Test.YtdhmponbakodmaaDoorPk17
import Derived.Test.YtdhmponbakodmaaDoorPk18
namespace Go.Proofs.YtdhmponbakodmaaDoor
set_option linter.unusedVariables false

/-- a search finds an element, or a set that it does not leave -/
theorem grow_ex {n : Nat} (hn : n ≤ 8) {l : List Nat} (hls : ∀ q, q < l.length → l.getD q 0 < bit n) : ∀ rem s0 k (S : Nat → Prop) X of, 256 - s0 = rem → (∀ q, S q → q < l.length) → GPre n l S X s0 k of → (∃ of', GWin n l S X of s0 k of') ∨ ∃ s', GFail n l of s0 s' k := by
  have hbn := bit_le n hn
  intro rem
  induction rem using Nat.strongRecOn with
  | ind rem ih =>
  intro s0 k S X of hrem hSl hP
  have hlk := hls k hP.klt
  have key : ∀ x s, nand (l.getD k 0) s = x → LInv n l of s0 s → (∃ of', GWin n l S X of s0 k of') ∨ ∃ s', GFail n l of s0 s' k := by
    intro x
    induction x using Nat.strongRecOn with
    | ind x ihx =>
    intro s hx hL
    by_cases h0 : x = 0
    · exact .inr ⟨s, hL.last (by omega) (by rw [hx, h0])⟩
    · have hx8 : x < 256 := by rw [← hx]; exact nand_lt _ _ 8 (by omega)
      obtain ⟨i, hi8, hib⟩ := exists_bit hx8 h0
      have hib2 := hib
      rw [← hx, nand_testBit, Bool.and_eq_true, Bool.not_eq_true'] at hib2
      obtain ⟨hki, hsi⟩ := hib2
      have hin : i < n := (lt_pow_iff n _ hn (by omega)).1 hlk i hi8 hki
      by_cases hf : of i < 0
      · exact .inl ⟨_, hP.free hL hin hki hsi hf⟩
      · obtain ⟨q, hq⟩ := Int.eq_ofNat_of_zero_le (show 0 ≤ of i by omega)
        obtain ⟨hpre, hSq⟩ := hP.deep hn hL hin hsi hq hSl
        have hgt : s0 < s ||| bit i := by
          have h1 : s0 ≤ s := by
            have e : s0 ||| s = s := or_eq_iff.2 hL.up
            have h2 : s0 ≤ s0 ||| s := Nat.left_le_or
            omega
          have h2 := or_bit s i (by have := hL.lt; omega) hi8 hsi
          have h3 := bit_lt i hi8
          omega
        have hlt : s ||| bit i < bit n := or_bit_lt hn hL.lt hin
        rcases ih (256 - (s ||| bit i)) (by omega) (s ||| bit i) q _ _ of rfl (fun p hp => hSl p hp.1) hpre with ⟨of', hw⟩ | ⟨s', hf'⟩
        · exact .inl ⟨_, hP.won hL hin hki hsi hq hSq hw⟩
        · refine ihx (nand (l.getD k 0) s') ?_ s' rfl (hL.lost hq hf')
          have hle : nand (l.getD k 0) s' ≤ x := by
            rw [← hx]
            have hsub : sub (nand (l.getD k 0) s') (nand (l.getD k 0) s) := fun j hj => by
              rw [nand_testBit, Bool.and_eq_true, Bool.not_eq_true'] at hj
              rw [nand_testBit, Bool.and_eq_true, Bool.not_eq_true']
              refine ⟨hj.1, ?_⟩
              cases c : s.testBit j
              · rfl
              · have := hf'.up j ((or_bit_at s i j).2 (.inl c))
                rw [this] at hj; cases hj.2
            have e : nand (l.getD k 0) s' ||| nand (l.getD k 0) s = nand (l.getD k 0) s := or_eq_iff.2 hsub
            have h2 : nand (l.getD k 0) s' ≤ nand (l.getD k 0) s' ||| nand (l.getD k 0) s := Nat.left_le_or
            omega
          have hne : nand (l.getD k 0) s' ≠ x := fun e => by
            rw [← e, nand_testBit, hf'.up i ((or_bit_at s i i).2 (.inr rfl))] at hib
            simp at hib
          omega
  exact key _ s0 rfl (LInv.start hP.lt)
theorem md_ex {n : Nat} (hn : n ≤ 8) {l : List Nat} (hl : l.length ≤ 8) (hls : ∀ q, q < l.length → l.getD q 0 < bit n) : ∀ k, k ≤ l.length → ∃ S U of, Md n l k S U of := by
  intro k
  induction k with
  | zero => intro _; exact ⟨0, 0, _, Md.start n l⟩
  | succ k ih =>
    intro hk
    obtain ⟨S, U, of, h⟩ := ih (by omega)
    have hb := bit_le k (by omega)
    rcases grow_ex hn hls _ 0 k (fun q => S.testBit q = true) 0 of rfl (fun q hq => by
      have := (lt_pow_iff k S (by omega) (by have := h.slt; omega)).1 h.slt q (lt_of_testBit (by have := h.slt; omega) hq) hq
      omega) (h.pre (by omega) (by omega)) with ⟨of', hw⟩ | ⟨s', hf⟩
    · exact ⟨_, _, _, h.win (by omega) hw⟩
    · exact ⟨_, _, _, h.lose hn hf⟩

/-- can elements stand for sets, without those used? -/
def Sd : List Nat → Nat → Prop
  | [], _ => True
  | l :: ls, u => ∃ i, l.testBit i = true ∧ u.testBit i = false ∧ Sd ls (u ||| bit i)
theorem sd_fun : ∀ (ls : List Nat) (u : Nat), Sd ls u ↔ ∃ x : Nat → Nat, (∀ q, q < ls.length → (ls.getD q 0).testBit (x q) = true ∧ u.testBit (x q) = false) ∧ ∀ p q, p < q → q < ls.length → x p ≠ x q := by
  intro ls
  induction ls with
  | nil => intro u; exact ⟨fun _ => ⟨fun _ => 0, fun q hq => by simp at hq, fun p q _ hq => by simp at hq⟩, fun _ => trivial⟩
  | cons l ls ih =>
    intro u
    constructor
    · rintro ⟨i, h1, h2, h3⟩
      obtain ⟨x, hx1, hx2⟩ := (ih _).1 h3
      refine ⟨fun q => match q with | 0 => i | q + 1 => x q, fun q hq => ?_, fun p q hpq hq => ?_⟩
      · cases q with
        | zero => exact ⟨h1, h2⟩
        | succ q =>
          have := hx1 q (by simpa using hq)
          exact ⟨this.1, (or_bit_not this.2).1⟩
      · cases q with
        | zero => omega
        | succ q =>
          cases p with
          | zero =>
            have := hx1 q (by simpa using hq)
            exact (or_bit_not this.2).2
          | succ p => exact hx2 p q (by omega) (by simpa using hq)
    · rintro ⟨x, hx1, hx2⟩
      have h0 := hx1 0 (by simp)
      refine ⟨x 0, h0.1, h0.2, (ih _).2 ⟨fun q => x (q + 1), fun q hq => ?_, fun p q hpq hq => hx2 _ _ (by omega) (by simpa using hq)⟩⟩
      have h1 := hx1 (q + 1) (by simpa using hq)
      refine ⟨by simpa using h1.1, ?_⟩
      rw [Nat.testBit_or, testBit_bit, h1.2]
      have := hx2 0 (q + 1) (by omega) (by simpa using hq)
      simpa using this
theorem sd_full {n : Nat} (hn : n ≤ 8) {l : List Nat} (hl : l.length ≤ 8) (hls : ∀ q, q < l.length → l.getD q 0 < bit n) : mtN l = l.length ↔ Sd l 0 := by
  have hbn := bit_le n hn
  have hbl := bit_le l.length hl
  constructor
  · intro h
    obtain ⟨S, U, of, hM⟩ := md_ex hn hl hls l.length (Nat.le_refl _)
    have hz := hM.many hn hl hls
    rw [h] at hz
    have hS8 : S < 256 := by have := hM.slt; omega
    have hS : S = bit l.length - 1 := by
      have hSl : ∀ q, S.testBit q = true → q < l.length := fun q hq => (lt_pow_iff l.length S hl hS8).1 hM.slt q (lt_of_testBit hS8 hq) hq
      refine eq_of_sub_sz hS8 (by omega) (fun q hq => by rw [testBit_all]; simpa using hSl q hq) ?_
      have : sz (bit l.length - 1) ≤ l.length := sz_le_m hl (by omega)
      omega
    have hall : ∀ q, q < l.length → ∃ i, i < n ∧ of i = (q : Int) ∧ (l.getD q 0).testBit i = true := fun q hq => by
      obtain ⟨i, h1, h2, h3⟩ := hM.mt.all q (by rw [hS, testBit_all]; simpa using hq)
      rcases hM.mt.val i h1 h2 with g | ⟨p, hp, g1, g2⟩
      · omega
      · have : p = q := by omega
        subst this
        exact ⟨i, h1, h3, g2⟩
    classical
    refine (sd_fun l 0).2 ⟨fun q => if h : q < l.length then Classical.choose (hall q h) else 0, fun q hq => ?_, fun p q hpq hq e => ?_⟩
    · simp only [dif_pos hq]
      exact ⟨(Classical.choose_spec (hall q hq)).2.2, by simp⟩
    · have hp : p < l.length := by omega
      simp only [dif_pos hq, dif_pos hp] at e
      have h1 := (Classical.choose_spec (hall p hp)).2.1
      have h2 := (Classical.choose_spec (hall q hq)).2.1
      rw [e, h2] at h1
      omega
  · intro h
    obtain ⟨x, hx1, hx2⟩ := (sd_fun l 0).1 h
    apply Nat.le_antisymm (mtTo_le l _).1
    refine mtTo_ge (Nat.le_refl _) _ fun s hs => ?_
    have hs8 : s < 256 := by omega
    have hsl : ∀ q, s.testBit q = true → q < l.length := fun q hq => (lt_pow_iff l.length s hl hs8).1 hs q (lt_of_testBit hs8 hq) hq
    have : sz s ≤ sz (sev l s) := sz_inj x (fun q hq hb => by
      have h1 := hx1 q (hsl q hb)
      exact ⟨lt_of_testBit (by have := hls q (hsl q hb); omega) h1.1, sev_at.2 ⟨q, hsl q hb, hb, h1.1⟩⟩) (fun p q _ _ hp hq e => by
      apply Classical.byContradiction
      intro c
      rcases Nat.lt_or_gt_of_ne c with g | g
      · exact hx2 p q g (hsl q hq) e
      · exact hx2 q p g (hsl p hp) e.symm)
    have h2 := sz_le_m hl hs
    omega

/-- elements that are used, one behind the other -/
def usd : Nat → List Nat → Nat
  | u, [] => u
  | u, y :: ys => usd (u ||| bit y) ys
def Nw : List Nat → Nat → Prop
  | [], _ => True
  | y :: ys, u => u.testBit y = false ∧ Nw ys (u ||| bit y)
theorem sd_one (y : Nat) (t : List Nat) (u : Nat) : Sd (bit y :: t) u ↔ u.testBit y = false ∧ Sd t (u ||| bit y) := by
  constructor
  · rintro ⟨i, h1, h2, h3⟩
    rw [testBit_bit] at h1
    have : y = i := by simpa using h1
    subst this
    exact ⟨h2, h3⟩
  · rintro ⟨h1, h2⟩
    exact ⟨y, by rw [testBit_bit]; simp, h1, h2⟩
theorem sd_pre (rest : List Nat) : ∀ (ys : List Nat) (u : Nat), Sd (ys.map bit ++ rest) u ↔ Nw ys u ∧ Sd rest (usd u ys) := by
  intro ys
  induction ys with
  | nil => intro u; exact ⟨fun h => ⟨trivial, h⟩, fun h => h.2⟩
  | cons y ys ih =>
    intro u
    show Sd (bit y :: (ys.map bit ++ rest)) u ↔ _
    rw [sd_one, ih]
    exact ⟨fun h => ⟨⟨h.1, h.2.1⟩, h.2.2⟩, fun h => ⟨h.1.1, h.1.2, h.2⟩⟩
theorem nw_snoc : ∀ (ys : List Nat) (u y : Nat), Nw (ys ++ [y]) u ↔ Nw ys u ∧ (usd u ys).testBit y = false := by
  intro ys
  induction ys with
  | nil => intro u y; exact ⟨fun h => ⟨trivial, h.1⟩, fun h => ⟨h.2, trivial⟩⟩
  | cons z ys ih =>
    intro u y
    show (_ ∧ Nw (ys ++ [y]) _) ↔ (_ ∧ _) ∧ _
    rw [ih]
    exact ⟨fun h => ⟨⟨h.1, h.2.1⟩, h.2.2⟩, fun h => ⟨h.1.1, h.1.2, h.2⟩⟩
theorem usd_snoc : ∀ (ys : List Nat) (u y : Nat), usd u (ys ++ [y]) = usd u ys ||| bit y := by
  intro ys
  induction ys with
  | nil => intro u y; rfl
  | cons z ys ih => intro u y; exact ih _ _

/-- every set is good -/
def gAll (m : Nat) : Nat → Nat → Bool := gRef [bit m - 1]
theorem gAll_eq {m used i : Nat} (hm : m ≤ 8) (hu : used < bit m) (hi : i < m) : gAll m used i = !used.testBit i := by
  have hb := bit_le m hm
  have h1 : used ||| bit i < bit m := or_bit_lt hm hu hi
  have h2 : rk [bit m - 1] (used ||| bit i) = sz (used ||| bit i) := by
    refine (ind_rk (by simp) (by omega)).1 ⟨bit m - 1, by simp, fun j hj => ?_⟩
    rw [testBit_all]
    have := (lt_pow_iff m _ hm (by omega)).1 h1 j (lt_of_testBit (by omega) hj) hj
    simpa using this
  show (!used.testBit i && decide (rk [bit m - 1] (used ||| bit i) = sz (used ||| bit i))) = _
  rw [h2]; simp
theorem rado_sd {m : Nat} (hm : m ≤ 8) : ∀ (ls : List Nat) (used : Nat), used < bit m → (∀ q, q < ls.length → ls.getD q 0 < bit m) → ((rado m (gAll m) ls used).isSome = true ↔ Sd ls used) := by
  have hb := bit_le m hm
  intro ls
  induction ls with
  | nil => intro used _ _; exact ⟨fun _ => trivial, fun _ => rfl⟩
  | cons s rest ih =>
    intro used hu hls
    have hs := hls 0 (by simp)
    simp only [List.getD_cons_zero] at hs
    have hrest : ∀ q, q < rest.length → rest.getD q 0 < bit m := fun q hq => by
      have := hls (q + 1) (by simpa using hq)
      simpa using this
    constructor
    · intro h
      cases hr : rado m (gAll m) (s :: rest) used with
      | none => rw [hr] at h; cases h
      | some l =>
        have h' : (List.range m).findSome? (radoStep m (gAll m) s rest used) = some l := hr
        obtain ⟨i, hi, h2⟩ := List.exists_of_findSome?_eq_some h'
        have hi' : i < m := by simpa using hi
        unfold radoStep at h2
        split at h2
        case isTrue c =>
          rw [gAll_eq hm hu hi'] at c
          simp at c
          refine ⟨i, c.1, c.2, (ih _ (or_bit_lt hm hu hi') hrest).1 ?_⟩
          cases h3 : rado m (gAll m) rest (used ||| bit i) with
          | none => rw [h3] at h2; cases h2
          | some l' => rfl
        case isFalse c => cases h2
    · rintro ⟨i, h1, h2, h3⟩
      have hi' : i < m := (lt_pow_iff m s hm (by omega)).1 hs i (lt_of_testBit (by omega) h1) h1
      have h4 := (ih _ (or_bit_lt hm hu hi') hrest).2 h3
      cases hr : rado m (gAll m) (s :: rest) used with
      | some l => rfl
      | none =>
        have h' : (List.range m).findSome? (radoStep m (gAll m) s rest used) = none := hr
        rw [List.findSome?_eq_none_iff] at h'
        have h5 := h' i (by simpa using hi')
        unfold radoStep at h5
        rw [if_pos (by rw [gAll_eq hm hu hi', h1, h2]; rfl)] at h5
        cases h6 : rado m (gAll m) rest (used ||| bit i) with
        | none => rw [h6] at h4; cases h4
        | some l' => rw [h6] at h5; cases h5
theorem rado_first {m : Nat} {g : Nat → Nat → Bool} {s : Nat} {rest : List Nat} {used : Nat} {l : List Nat} (h : rado m g (s :: rest) used = some l) : ∃ x l', l = x :: l' ∧ x < m ∧ s.testBit x = true ∧ g used x = true ∧ rado m g rest (used ||| bit x) = some l' ∧ ∀ j, j < x → radoStep m g s rest used j = none := by
  have h' : (List.range m).findSome? (radoStep m g s rest used) = some l := h
  rw [List.findSome?_eq_some_iff] at h'
  obtain ⟨l1, x, l2, e, hx, hno⟩ := h'
  have hlen : l1.length < m := by
    have := congrArg List.length e
    simp at this
    omega
  have hxe : x = l1.length := by
    have h1 : (List.range m)[l1.length]? = some l1.length := by simp [hlen]
    rw [e] at h1
    simpa using h1
  have hj : ∀ j, j < x → j ∈ l1 := fun j hj => by
    have h1 : (List.range m)[j]? = some j := by rw [List.getElem?_range (by omega)]
    rw [e, List.getElem?_append_left (by omega)] at h1
    exact List.mem_of_getElem? h1
  unfold radoStep at hx
  split at hx
  case isTrue c =>
    simp at c
    cases h3 : rado m g rest (used ||| bit x) with
    | none => rw [h3] at hx; cases hx
    | some l' =>
      rw [h3] at hx
      simp only [Option.map_some, Option.some.injEq] at hx
      exact ⟨x, l', hx.symm, by omega, c.1, c.2, h3, fun j hj2 => hno j (hj j hj2)⟩
  case isFalse c => cases hx

/-- with the k-th set cut to one element: can elements stand for all? -/
def GoodK (ls xs : List Nat) (k i : Nat) : Prop := mtN ((xs.take k).map bit ++ bit i :: ls.drop (k + 1)) = ls.length
theorem drop_getD {l : List Nat} {k : Nat} (h : k < l.length) : l.drop k = l.getD k 0 :: l.drop (k + 1) := by
  rw [List.drop_eq_getElem_cons h]
  congr 1
  simp [h]
theorem take_getD {l : List Nat} {k : Nat} (h : k < l.length) : l.take (k + 1) = l.take k ++ [l.getD k 0] := by
  rw [List.take_add_one, List.getElem?_eq_getElem h]
  simp [h]
/-- the first list, taken one by one -/
theorem first_steps {m : Nat} (hm : m ≤ 8) {ls xs : List Nat} (hl : ls.length ≤ 8) (hls : ∀ q, q < ls.length → ls.getD q 0 < bit m) (h : rado m (gAll m) ls 0 = some xs) :
    ∀ k, k ≤ ls.length → Nw (xs.take k) 0 ∧ usd 0 (xs.take k) < bit m ∧ (∀ y, y ∈ xs.take k → y < m) ∧ rado m (gAll m) (ls.drop k) (usd 0 (xs.take k)) = some (xs.drop k) := by
  have hxl := rado_len _ _ _ h
  intro k
  induction k with
  | zero => intro _; exact ⟨trivial, Nat.pow_pos (by decide), fun y hy => by simp at hy, h⟩
  | succ k ih =>
    intro hk
    obtain ⟨h1, h2, h3, h4⟩ := ih (by omega)
    rw [drop_getD (show k < ls.length by omega)] at h4
    obtain ⟨x, l', e, hx, hs, hg, hr, _⟩ := rado_first h4
    rw [drop_getD (show k < xs.length by omega)] at e
    simp only [List.cons.injEq] at e
    obtain ⟨e1, e2⟩ := e
    rw [take_getD (show k < xs.length by omega), e1]
    rw [gAll_eq hm h2 hx] at hg
    refine ⟨(nw_snoc _ _ _).2 ⟨h1, by simpa using hg⟩, by rw [usd_snoc]; exact or_bit_lt hm h2 hx, fun y hy => ?_, by rw [usd_snoc, hr, e2]⟩
    simp only [List.mem_append, List.mem_cons, List.not_mem_nil, or_false] at hy
    rcases hy with hy | rfl
    · exact h3 y hy
    · exact hx
theorem getD_app_l {a b : List Nat} {q : Nat} (h : q < a.length) : (a ++ b).getD q 0 = a.getD q 0 := by
  rw [List.getD_eq_getElem?_getD, List.getD_eq_getElem?_getD, List.getElem?_append_left h]
theorem getD_app_r {a b : List Nat} {q : Nat} (h : a.length ≤ q) : (a ++ b).getD q 0 = b.getD (q - a.length) 0 := by
  rw [List.getD_eq_getElem?_getD, List.getD_eq_getElem?_getD, List.getElem?_append_right h]
/-- the list in which the k-th set is cut -/
theorem cut_ok {m : Nat} (hm : m ≤ 8) {ls xs : List Nat} (hls : ∀ q, q < ls.length → ls.getD q 0 < bit m) {k i : Nat} (hk : k < ls.length) (hxl : xs.length = ls.length) (hx : ∀ y, y ∈ xs.take k → y < m) (hi : i < m) :
    ((xs.take k).map bit ++ bit i :: ls.drop (k + 1)).length = ls.length ∧ ∀ q, q < ls.length → ((xs.take k).map bit ++ bit i :: ls.drop (k + 1)).getD q 0 < bit m := by
  have hlen : ((xs.take k).map bit).length = k := by simp; omega
  have hbm : ∀ y, y < m → bit y < bit m := fun y hy => Nat.pow_lt_pow_right (by decide) hy
  refine ⟨by simp; omega, fun q hq => ?_⟩
  by_cases c : q < k
  · rw [getD_app_l (by omega)]
    have hq2 : q < (xs.take k).length := by simp; omega
    have e : ((xs.take k).map bit).getD q 0 = bit ((xs.take k)[q]) := by
      rw [List.getD_eq_getElem?_getD, List.getElem?_map, List.getElem?_eq_getElem hq2]; rfl
    rw [e]
    exact hbm _ (hx _ (List.getElem_mem hq2))
  · rw [getD_app_r (by omega), hlen]
    by_cases d : q = k
    · subst d
      rw [Nat.sub_self]
      exact hbm i hi
    · rw [show q - k = (q - k - 1) + 1 by omega, List.getD_cons_succ]
      have : (ls.drop (k + 1)).getD (q - k - 1) 0 = ls.getD q 0 := by
        rw [List.getD_eq_getElem?_getD, List.getD_eq_getElem?_getD, List.getElem?_drop, show k + 1 + (q - k - 1) = q by omega]
      rw [this]; exact hls q hq
theorem good_first {m : Nat} (hm : m ≤ 8) {ls xs : List Nat} (hl : ls.length ≤ 8) (hls : ∀ q, q < ls.length → ls.getD q 0 < bit m) (h : rado m (gAll m) ls 0 = some xs) {k : Nat} (hk : k < ls.length) :
    xs.getD k 0 < m ∧ (ls.getD k 0).testBit (xs.getD k 0) = true ∧ GoodK ls xs k (xs.getD k 0) ∧ ∀ j, j < xs.getD k 0 → (ls.getD k 0).testBit j = true → ¬ GoodK ls xs k j := by
  have hb := bit_le m hm
  have hxl := rado_len _ _ _ h
  obtain ⟨h1, h2, h3, h4⟩ := first_steps hm hl hls h k (by omega)
  rw [drop_getD hk] at h4
  obtain ⟨x, l', e, hx, hs, hg, hr, hno⟩ := rado_first h4
  rw [drop_getD (show k < xs.length by omega)] at e
  simp only [List.cons.injEq] at e
  obtain ⟨e1, e2⟩ := e
  have hdrop : ∀ q, q < (ls.drop (k + 1)).length → (ls.drop (k + 1)).getD q 0 < bit m := fun q hq => by
    have : (ls.drop (k + 1)).getD q 0 = ls.getD (k + 1 + q) 0 := by
      rw [List.getD_eq_getElem?_getD, List.getD_eq_getElem?_getD, List.getElem?_drop]
    rw [this]
    exact hls _ (by simp at hq; omega)
  have good : ∀ i, i < m → (GoodK ls xs k i ↔ (usd 0 (xs.take k)).testBit i = false ∧ (rado m (gAll m) (ls.drop (k + 1)) (usd 0 (xs.take k) ||| bit i)).isSome = true) := fun i hi => by
    obtain ⟨c1, c2⟩ := cut_ok hm hls hk hxl h3 hi
    have c3 := sd_full hm (l := (xs.take k).map bit ++ bit i :: ls.drop (k + 1)) (by omega) (by rw [c1]; exact c2)
    rw [c1] at c3
    show mtN _ = _ ↔ _
    rw [c3, sd_pre, sd_one, rado_sd hm _ _ (or_bit_lt hm h2 hi) hdrop]
    exact ⟨fun c => c.2, fun c => ⟨h1, c⟩⟩
  rw [gAll_eq hm h2 hx] at hg
  rw [e1]
  refine ⟨hx, hs, (good x hx).2 ⟨by simpa using hg, by rw [hr]; rfl⟩, fun j hj hsj hgj => ?_⟩
  obtain ⟨c1, c2⟩ := (good j (by omega)).1 hgj
  have h5 := hno j hj
  unfold radoStep at h5
  rw [if_pos (by rw [gAll_eq hm h2 (by omega), hsj, c1]; rfl)] at h5
  cases h6 : rado m (gAll m) (ls.drop (k + 1)) (usd 0 (xs.take k) ||| bit j) with
  | none => rw [h6] at c2; cases c2
  | some l' => rw [h6] at h5; cases h5

end Go.Proofs.YtdhmponbakodmaaDoor

namespace Go.Proofs.YtdhmponbakodmaaDoor
open Go.RowKit
set_option linter.unusedVariables false

theorem Own.cellN {B : Nat} {w : World} {g cap : Nat} {xs : List Nat} (h : Own B w (some ⟨g, 0, none⟩) cap (ints xs)) {i : Nat} (hi : i < xs.length) : w.cell? ⟨g, i, none⟩ = some (.int .i64 ((xs.getD i 0 : Nat) : Int)) := by
  obtain ⟨b, off, e, _, hc⟩ := h.reads.at (k := i) (by rw [ints_len]; exact hi)
  simp only [Option.some.injEq, Addr.mk.injEq] at e
  obtain ⟨rfl, rfl, _⟩ := e
  have := hc (Later.self w) i (by rw [ints_len]; exact hi)
  rw [ints_getD, Nat.zero_add] at this
  exact this
theorem Own.fzN {B : Nat} {w : World} {g cap : Nat} {xs : List Int} (h : Own B w (some ⟨g, 0, none⟩) cap xs) (i : Nat) : w.frozen? ⟨g, i, none⟩ = false := World.ownsRow.frozenAt h i
theorem Own.ltN {B : Nat} {w : World} {g cap : Nat} {xs : List Int} (h : Own B w (some ⟨g, 0, none⟩) cap xs) : B ≤ g ∧ g < w.heap.size := World.ownsRow.lt h g rfl
theorem Own.setN {B : Nat} {w : World} {g cap : Nat} {xs : List Nat} (h : Own B w (some ⟨g, 0, none⟩) cap (ints xs)) (i x : Nat) : Own B (w.setCell ⟨g, i, none⟩ (.int .i64 (x : Int))) (some ⟨g, 0, none⟩) cap (ints (xs.set i x)) := by
  have h1 : w.ownsRow B 3 1 (.slice (some ⟨g, 0, none⟩) (ints xs).length cap) (ints xs).length ((ints xs).map (Value.int .i64)) := h
  have := (World.ownsRow.stored h1 i (.int .i64 (x : Int))).1
  have e : ((ints xs).map (Value.int .i64)).set i (.int .i64 (x : Int)) = (ints (xs.set i x)).map (Value.int .i64) := by
    unfold ints
    rw [List.map_set, List.map_set]
  rw [e] at this
  have hl : (ints xs).length = (ints (xs.set i x)).length := by simp [ints]
  rw [hl] at this
  exact this
theorem Own.keep_at {B C : Nat} {w w' : World} {g cap : Nat} {xs : List Int} (h : Own B w (some ⟨g, 0, none⟩) cap xs) (hb : Below C w w') (hg : g < C) : Own B w' (some ⟨g, 0, none⟩) cap xs := by
  obtain ⟨h1, h2⟩ := h
  refine ⟨h1, ?_⟩
  rcases h2 with ⟨e, _⟩ | ⟨g', c, cur, e, hb', hh, rest⟩
  · cases e
  · have e2 : g = g' := by
      simp only [Value.slice.injEq, Option.some.injEq, Addr.mk.injEq] at e
      exact e.1.1
    subst e2
    exact .inr ⟨g, c, cur, e, hb', by rw [hb.block g hg]; exact hh, rest⟩
theorem tz_one {i : Nat} (h : i < 8) : tzN (bit i) = i := by
  have : ∀ i : Fin 8, tzN (bit i.val) = i.val := by decide +kernel
  exact this ⟨i, h⟩
/-- the sets as they stand while the k-th one is looked at -/
def ownL (ls xs : List Nat) (k c : Nat) : List Nat := (xs.take k).map bit ++ c :: ls.drop (k + 1)
theorem ownL_start {ls xs : List Nat} {k : Nat} (h : k < ls.length) : ownL ls xs k (ls.getD k 0) = (xs.take k).map bit ++ ls.drop k := by
  unfold ownL
  rw [drop_getD h]
theorem ownL_set {ls xs : List Nat} {k c x : Nat} (hk : k ≤ xs.length) : (ownL ls xs k c).set k x = ownL ls xs k x := by
  unfold ownL
  have hlen : ((xs.take k).map bit).length = k := by simp; omega
  rw [List.set_append_right _ _ (by omega), hlen, Nat.sub_self]
  rfl
theorem ownL_at {ls xs : List Nat} {k c : Nat} (hk : k ≤ xs.length) : (ownL ls xs k c).getD k 0 = c := by
  unfold ownL
  have hlen : ((xs.take k).map bit).length = k := by simp; omega
  rw [getD_app_r (by omega), hlen, Nat.sub_self]
  rfl
theorem ownL_next {ls xs : List Nat} {k : Nat} (hk : k < xs.length) : ownL ls xs k (bit (xs.getD k 0)) = (xs.take (k + 1)).map bit ++ ls.drop (k + 1) := by
  unfold ownL
  rw [take_getD hk, List.map_append]
  simp
theorem ownL_len {ls xs : List Nat} {k c : Nat} (hk : k < ls.length) (hx : xs.length = ls.length) : (ownL ls xs k c).length = ls.length := by
  unfold ownL
  simp
  omega

set_option maxRecDepth 100000 in
set_option maxHeartbeats 8000000 in
theorem c_hallStand {B : Nat} {W : World} (u : Later B W) (n : Nat) (hn : n ≤ 8) (ls : List Nat) (hl8 : ls.length ≤ 8) (hls : ∀ q, q < ls.length → ls.getD q 0 < bit n) (al : Option Addr) (capl : Nat) (hI : IntsAt B W al (ints ls)) (hcap : al = none → capl = 0) (hD : Dbr B W) (hL : LisIs (n : Int) (ints ls) 0) :
    Calls Tryd.prog 6 #[.int .i64 n, .slice al ls.length capl] u.val (RetP B W (ListE (ints ((rado n (gAll n) ls 0).getD [])) (if (rado n (gAll n) ls 0).isSome then 0 else 5))) := by
  have hbn := bit_le n hn
  have K1 := Lib.hid (fun v : Later B W => c_hallCheck v n (ints ls) al capl 0 hI (by rw [ints_len]; omega) hL)
  rw [ints_len] at K1
  have K2 := Lib.hid (fun v : Later B W => c_matched v n hn ls hl8 hls al capl hI hD)
  have HF := Lib.hid (sd_full hn hl8 hls)
  have HR := Lib.hid (rado_sd hn ls 0 (Nat.pow_pos (by decide)) hls)
  have HI := Lib.hid hI
  have HD := Lib.hid hD
  have HLs := Lib.hid hls
  have HC := Lib.hid hcap
  have hm8 : mtN ls ≤ ls.length := (mtTo_le ls _).1
  clear hI hD hL hls hcap
  cases hr : rado n (gAll n) ls 0 with
  | none =>
    have hne : mtN ls ≠ ls.length := fun e => by
      have := HR.out.2 (HF.out.1 e)
      rw [hr] at this; cases this
    have d0 : decide (mtN ls < ls.length) = true := decide_eq_true (by omega)
    have d1 : decide ((mtN ls : Int) < (ls.length : Int)) = true := decide_eq_true (by omega)
    clear hr HR HF hne
    generalize mtN ls = m at *
    go_enter Tryd.func6, Tryd.ntmps6
    go_wp2_with (first | (go_at_call 9; (with_reducible refine ((K1.out _)).mono ?_); rintro e _ ⟨rfl, v1, rfl⟩) | (go_at_call 20; (with_reducible refine ((K2.out _)).mono ?_); rintro e _ ⟨_, rfl, ⟨x, rfl⟩, v2, rfl⟩))
    go_ret2
    exact RetP.mk v2 ListE.no
  | some xs =>
    have he : mtN ls = ls.length := HF.out.2 (HR.out.1 (by rw [hr]; rfl))
    rw [he] at K2
    have HGood := Lib.hid (fun k (hk : k < ls.length) => good_first hn hl8 HLs.out hr hk)
    have HSteps := Lib.hid (fun k (hk : k ≤ ls.length) => (first_steps hn hl8 HLs.out hr k hk).2.2.1)
    have hxl := rado_len _ _ _ hr
    clear hr HR HF he hm8
    have K1u := Lib.hid (K1.out u)
    go_enter Tryd.func6, Tryd.ntmps6
    go_upto_region 7 with (first | (go_at_call 9; (with_reducible refine (K1u.out).mono ?_); rintro e _ ⟨rfl, v1, rfl⟩) | (go_at_call 20; (with_reducible refine (K2.out v1).mono ?_); rintro e _ ⟨_, rfl, ⟨x, rfl⟩, v2, rfl⟩))
    have HI2 : Hid (IntsAt v2.val.heap.size v2.val al (ints ls)) := Lib.hid (HI.out.to v2)
    have hv2 := v2.size
    have hll : Hid ((ints ls).length = ls.length) := Lib.hid (ints_len ls)
    go_upto_region 8 with (first | (at_builtin; refine wpList_appends_g (B := v2.val.heap.size) (Nat.le_refl _) rfl _ _ rfl [] none 0 rfl (Own.nil _ _) (ints ls) al capl (by rw [hll.out]; rfl) HI2.out HC.out (by rw [hll.out]; simp; omega) ?_; intro w' ad' cap' hown hgrow))
    obtain ⟨v3, hv3⟩ : ∃ v3 : Later B W, v3.val = w' := ⟨v2.to w' ((own_below (Below.refl _ _) (Nat.le_refl _) (Own.nil _ _) hgrow).mono hv2), rfl⟩
    rw [← hv3] at hown ⊢
    have HO0 : Hid (Own v2.val.heap.size v3.val ad' cap' (ints ls)) := Lib.hid hown
    clear hv3 hown hgrow HI2 w' K1u K2
    have e0 := hll.out
    rw [e0]
    have HO1 : Hid (Own B v3.val ad' cap' (ints ls)) := Lib.hid (HO0.out.mono hv2)
    clear HO0 e0 v1 v2 hv2 K1 HI HC
    by_cases h0 : ls.length = 0
    · have hx0 : xs = [] := List.length_eq_zero_iff.1 (by omega)
      subst hx0
      have HL0 := Lib.hid h0
      generalize ls.length = q at *
      subst h0
      go_wp2
      go_loopw [10, 35] (fun o i wr => i = .int .i64 0 ∧ o = .slice none 0 0 ∧ wr = v3.val) (fun _ _ _ => 0)
      case atStart => exact ⟨rfl, rfl, rfl⟩
      case round =>
        obtain ⟨rfl, rfl, rfl⟩ := hrel
        go_wp2
        go_ret2
        exact RetP.mk v3 ListE.no
    · obtain ⟨go, rfl⟩ := own_some HO1.out (by intro e; apply h0; have := congrArg List.length e; rwa [ints_len] at this)
      have hgo := (Own.ltN HO1.out).1
      have HO2 : Hid (Own B v3.val (some ⟨go, 0, none⟩) cap' (ints ((xs.take 0).map bit ++ ls.drop 0))) := Lib.hid (by simpa using HO1.out)
      clear HO1 h0
      go_wp2
      go_loopw [10, 35] (fun o i wr => ∃ (k : Nat) (ado : Option Addr) (cpo : Nat) (v : Later B W), k ≤ ls.length ∧ i = .int .i64 k ∧ o = .slice ado (ints (xs.take k)).length cpo ∧ wr = v.val ∧ Hid (Own (go + 1) v.val ado cpo (ints (xs.take k))) ∧ Hid (Own B v.val (some ⟨go, 0, none⟩) cap' (ints ((xs.take k).map bit ++ ls.drop k)))) (fun _ i _ => ls.length - (intOf i).toNat)
      case atStart => exact ⟨0, none, 0, v3, by omega, rfl, rfl, rfl, Lib.hid (Own.nil _ _), HO2⟩
      case round =>
        clear HO2 v3
        obtain ⟨k, ado, cpo, v, hk, rfl, rfl, rfl, HOo, HOw⟩ := hrel
        by_cases hlt : k < ls.length
        · obtain ⟨hxm, hxb, hxg, hxf⟩ := HGood.out k hlt
          have hlk := HLs.out k hlt
          have HSk := Lib.hid (HSteps.out k (by omega))
          have HOw2 : Hid (Own B v.val (some ⟨go, 0, none⟩) cap' (ints (ownL ls xs k (ls.getD k 0)))) := Lib.hid (by rw [ownL_start hlt]; exact HOw.out)
          have hoc : v.val.cell? ⟨go, k, none⟩ = some (.int .i64 ((ls.getD k 0 : Nat) : Int)) := by
            have := HOw2.out.cellN (i := k) (by rw [ownL_len hlt hxl]; exact hlt)
            rwa [ownL_at (by omega)] at this
          have HXb := Lib.hid hxb
          have HXg := Lib.hid hxg
          have HXf := Lib.hid hxf
          have HLk : Hid (ls.getD k 0 < 256) := Lib.hid (by omega)
          have hto : (ints (xs.take k)).length ≤ 8 := by rw [ints_len, List.length_take]; omega
          clear HOw hxb hxg hxf
          generalize hlke : ls.getD k 0 = lk at *
          clear hlke
          go_wp2
          clear hoc
          go_loopw [12] (fun s_ wr => ∃ (s c : Nat) (v : Later B W), s < 256 ∧ s_ = .int .i64 s ∧ wr = v.val ∧ Hid (Own (go + 1) v.val ado cpo (ints (xs.take k))) ∧ Hid (Own B v.val (some ⟨go, 0, none⟩) cap' (ints (ownL ls xs k c))) ∧ Hid (s.testBit (xs.getD k 0) = true) ∧ Hid (∀ j, s.testBit j = true → lk.testBit j = true)) (fun s_ _ => (intOf s_).toNat)
          case atStart => exact ⟨lk, _, v, HLk.out, rfl, rfl, HOo, HOw2, HXb, Lib.hid (fun _ h => h)⟩
          case round =>
            clear HOo HOw2 v
            obtain ⟨s, c, v, hs8, rfl, rfl, HOo, HOw, HSx, HSs⟩ := hrel
            have hs0 : s ≠ 0 := fun e => by have := HSx.out; rw [e] at this; simp at this
            obtain ⟨i, hi8, hlow, hib, hdb, hmin, hdl⟩ := low_facts s hs8 hs0
            have hin : i < n := (lt_pow_iff n _ hn (by have := HLk.out; exact this)).1 hlk i hi8 (HSs.out i hib)
            have o1 := i64_low s hs8
            rw [hlow] at o1
            have o2 := i64_drop1 s hs8 (by omega)
            have hoc : v.val.cell? ⟨go, k, none⟩ = some (.int .i64 (c : Int)) := by
              have := HOw.out.cellN (i := k) (by rw [ownL_len hlt hxl]; exact hlt)
              rwa [ownL_at (by omega)] at this
            have hfz := HOw.out.fzN k
            have hbi := bit_lt i hi8
            obtain ⟨v1, hv1⟩ : ∃ v1 : Later B W, v1.val = v.val.setCell ⟨go, k, none⟩ (.int .i64 ((bit i : Nat) : Int)) := ⟨v.set ⟨go, k, none⟩ hgo _, rfl⟩
            have HOw1 : Hid (Own B v1.val (some ⟨go, 0, none⟩) cap' (ints (ownL ls xs k (bit i)))) := Lib.hid (by
              have := HOw.out.setN k (bit i)
              rw [ownL_set (by omega)] at this
              rw [hv1]; exact this)
            have HOo1 : Hid (Own (go + 1) v1.val ado cpo (ints (xs.take k))) := Lib.hid (by rw [hv1]; exact HOo.out.set (by omega) _)
            obtain ⟨hc1, hc2⟩ := cut_ok hn HLs.out hlt hxl HSk.out hin
            have KM := Lib.hid (c_matched (Later.self v1.val) n hn (ownL ls xs k (bit i)) (by rw [ownL_len hlt hxl]; exact hl8) (fun q hq => hc2 q (by rw [ownL_len hlt hxl] at hq; exact hq)) (some ⟨go, 0, none⟩) cap' HOw1.out.reads (HD.out.to v1))
            rw [ownL_len hlt hxl] at KM
            dsimp only [Later.self] at KM
            have HGd : Hid (GoodK ls xs k i ↔ mtN (ownL ls xs k (bit i)) = ls.length) := Lib.hid Iff.rfl
            have hmn : mtN (ownL ls xs k (bit i)) ≤ ls.length := by
              have := (mtTo_le (ownL ls xs k (bit i)) (bit (ownL ls xs k (bit i)).length)).1
              rw [ownL_len hlt hxl] at this
              show mtTo _ (bit (ownL ls xs k (bit i)).length) ≤ _
              rw [ownL_len hlt hxl]; exact this
            generalize hmm : mtN (ownL ls xs k (bit i)) = mm at *
            have HIM := Lib.hid hmin
            have HIB := Lib.hid hib
            have HDB := Lib.hid hdb
            clear hc1 hc2 hmin hib hdb hlow hmm HOw HOo
            go_upto_region 15 with fail
            rw [← hv1]
            clear hv1 hoc hfz v o1
            by_cases hg : mm = ls.length
            · have hgk := HGd.out.2 hg
              have hix : i = xs.getD k 0 := by
                have h1 := HIM.out (xs.getD k 0) (by omega) HSx.out
                apply Classical.byContradiction
                intro c
                exact HXf.out i (by omega) (HSs.out i HIB.out) hgk
              have HN : Hid (ints (xs.take (k + 1)) = ints (xs.take k) ++ [(i : Int)]) := Lib.hid (by rw [take_getD (by omega), ints_snoc, hix])
              have HW2 : Hid (ownL ls xs k (bit i) = (xs.take (k + 1)).map bit ++ ls.drop (k + 1)) := Lib.hid (by rw [hix, ownL_next (by omega)])
              rw [hg] at KM
              have KZ : Hid (∀ v : Later v1.val.heap.size v1.val, Calls Tryd.prog 21 #[.int .u64 ((bit i : Nat) : Int)] v.val (Ret v1.val.heap.size v1.val (.int .i64 (i : Int)))) := Lib.hid (fun v => by
                have := c_tz v (bit i) (by omega) (by omega) (HD.out.to v1)
                rwa [tz_one hi8] at this)
              have hoc2 : ∀ v : Later v1.val.heap.size v1.val, v.val.cell? ⟨go, k, none⟩ = some (.int .i64 ((bit i : Nat) : Int)) := fun v => by
                have := (HOw1.out.keep v.below).cellN (i := k) (by rw [ownL_len hlt hxl]; exact hlt)
                rwa [ownL_at (by omega)] at this
              have hgl : ∀ v : Later v1.val.heap.size v1.val, go + 1 ≤ v.val.heap.size := fun v => by have := (Own.ltN HOw1.out).2; have := v.size; omega
              clear hgk hix hg HGd HSx HSs HIM HIB HDB HXf HXg HXb hdl hmn
              generalize hX : ints (xs.take k) = X at *
              go_wp2_with (first | (go_at_call 20; (with_reducible refine (KM.out).mono ?_); rintro e _ ⟨_, rfl, ⟨x2, rfl⟩, v2, rfl⟩) | (go_at_call 21; (with_reducible refine (KZ.out v2).mono ?_); rintro e _ ⟨rfl, v3, rfl⟩) | (at_builtin; refine wpList_push (B := go + 1) (W := v3.val) (w := v3.val) (Below.refl _ _) (hgl v3) rfl _ _ rfl X ado cpo (i : Int) rfl (HOo1.out.keep v3.below) rfl (by omega) ?_; intro u2 ad2 cp2 hown) | fail)
              go_roundw
              case rel =>
                have hu2 := u2.size
                refine ⟨k+1, ad2, cp2, (v1.up v3).to u2.val (u2.below.mono (by omega)), by omega, by go_num, ?_, rfl, ?_, ?_⟩
                · rw [HN.out]; simp
                · rw [HN.out]; exact Lib.hid hown
                · rw [← HW2.out]
                  exact Lib.hid ((HOw1.out.keep v3.below).keep_at u2.below (by omega))
              case measure => simp [intOf]; omega
            · have hgk : ¬ GoodK ls xs k i := fun c => hg (HGd.out.1 c)
              have hix : i ≠ xs.getD k 0 := fun e => hgk (by rw [e]; exact HXg.out)
              have HSx2 : Hid ((drop1 s).testBit (xs.getD k 0) = true) := Lib.hid (by
                rw [HDB.out _ (by omega), HSx.out]
                simpa using fun e => hix e.symm)
              have HSs2 : Hid (∀ j, (drop1 s).testBit j = true → lk.testBit j = true) := Lib.hid (fun j hj => by
                have hj8 := lt_of_testBit (drop1_lt s hs8) hj
                rw [HDB.out j hj8] at hj
                simp at hj
                exact HSs.out j hj.1)
              have hd8 := drop1_lt s hs8
              have d1 : ((mm : Int) == (ls.length : Int)) = false := by rw [beq_eq_false_iff_ne]; omega
              have d2 : (mm == ls.length) = false := by rw [beq_eq_false_iff_ne]; exact hg
              clear hgk hix hg HGd HSx HSs HIM HIB HDB HXf HXg HXb
              go_wp2_with (first | (go_at_call 20; (with_reducible refine (KM.out).mono ?_); rintro e _ ⟨_, rfl, ⟨x2, rfl⟩, v2, rfl⟩) | fail)
              go_roundw
              case rel => exact ⟨drop1 s, bit i, v1.up v2, hd8, rfl, rfl, Lib.hid (HOo1.out.keep v2.below), Lib.hid (HOw1.out.keep v2.below), HSx2, HSs2⟩
              case measure => simpa [intOf] using hdl
        · have hke : k = ls.length := by omega
          subst hke
          have HOe : Hid (Own (go + 1) v.val ado cpo (ints xs)) := Lib.hid (by
            have := HOo.out
            rwa [List.take_of_length_le (by omega)] at this)
          have hte : ints (xs.take ls.length) = ints xs := by rw [List.take_of_length_le (by omega)]
          rw [hte]
          go_wp2
          go_ret2
          exact RetP.mk v (ListE.mk (Reads.of_own HOe.out))

end Go.Proofs.YtdhmponbakodmaaDoor
