
/-
  Complexes, plainly: facets, faces, how many faces of each size, their sums, the dual, the link.
-/
import Derived.Test.YtjpcelldbhdneaaPkPl
import Derived.Test.YtjpcelldbhdneaaTabs
namespace Go.Proofs.Ytjpcelldbhdneaa
set_option linter.unusedVariables false

theorem getD_memC {L : List Nat} {k : Nat} (h : k < L.length) : L.getD k 0 ∈ L := by simp [h]
theorem mem_getD {L : List Nat} {x : Nat} (h : x ∈ L) : ∃ i, i < L.length ∧ L.getD i 0 = x := by
  obtain ⟨i, hi, e⟩ := List.getElem_of_mem h
  exact ⟨i, hi, by simp [hi, e]⟩

theorem those_len256 {m : Nat} (hm : m ≤ 8) (p : Nat → Bool) : (those m p).length ≤ 256 := by
  have h1 := thoseTo_len p (bit m)
  have h2 := bit_le m hm
  have e : those m p = thoseTo p (bit m) := rfl
  rw [e]; omega

/-! ### faces -/
theorem face_any (L : List Nat) (s : Nat) : L.any (fun f => decide (f &&& s = s)) = freeB L s := by
  unfold freeB
  congr 1
  funext f
  rw [Bool.eq_iff_iff, decide_eq_true_eq, decide_eq_true_eq, Nat.and_comm, and_eq_iff, or_eq_iff]
  exact Iff.rfl
theorem face_iff {L : List Nat} {s : Nat} : freeB L s = true ↔ ∃ f, f ∈ L ∧ sub s f := freeB_iff
/-- is no facet within another one? -/
def topAll (L : List Nat) : Bool := L.all (topB L)
def cxE (L : List Nat) : Int := if L = [] then 1 else if topAll L = true then 0 else 3
theorem top_len {m : Nat} {L : List Nat} (hr : L.Pairwise (· < ·)) (hlt : ∀ b, b ∈ L → b < bit m) : (those m (mostB L)).length = L.length ↔ topAll L = true := by
  rw [← filt_most hr hlt]
  unfold topAll
  rw [List.length_filter_eq_length_iff, List.all_eq_true]

/-! ### how many of each size -/
def tally (F : List Nat) (i k : Nat) : Int := ((((F.take i).filter (fun s => decide (sz s = k))).length : Nat) : Int)
theorem tally_zero (F : List Nat) (k : Nat) : tally F 0 k = 0 := by simp [tally]
theorem tally_step (F : List Nat) {i : Nat} (h : i < F.length) (k : Nat) : tally F (i + 1) k = if k = sz (F.getD i 0) then tally F i k + 1 else tally F i k := by
  unfold tally
  rw [List.take_add_one, List.getElem?_eq_getElem h, List.filter_append]
  have : F.getD i 0 = F[i] := by simp [h]
  rw [this]
  by_cases c : k = sz F[i]
  · simp [c]
  · have c2 : ¬ sz F[i] = k := fun h => c h.symm
    simp [c, c2]
theorem tally_le (F : List Nat) (i k : Nat) : 0 ≤ tally F i k ∧ tally F i k ≤ F.length := by
  unfold tally
  have h1 := List.length_filter_le (fun s => decide (sz s = k)) (F.take i)
  have h3 : (F.take i).length ≤ F.length := by simp; omega
  omega
/-- how many sizes the first i have -/
def szs (F : List Nat) : Nat → Nat
  | 0 => 0
  | i + 1 => max (szs F i) (sz (F.getD i 0) + 1)
theorem szs_le (F : List Nat) (i : Nat) : szs F i ≤ 9 := by
  induction i with
  | zero => exact Nat.zero_le _
  | succ i ih => have := sz_le (F.getD i 0); show max _ _ ≤ 9; omega
theorem szs_ge (F : List Nat) {i j : Nat} (h : j < i) : sz (F.getD j 0) + 1 ≤ szs F i := by
  induction i with
  | zero => omega
  | succ i ih =>
    show _ ≤ max _ _
    by_cases e : j = i
    · subst e; omega
    · have := ih (by omega); omega
theorem szs_hi (F : List Nat) {i k : Nat} (hi : i ≤ F.length) (hk : szs F i ≤ k) : tally F i k = 0 := by
  induction i with
  | zero => exact tally_zero F k
  | succ i ih =>
    have h1 : max (szs F i) (sz (F.getD i 0) + 1) ≤ k := hk
    rw [tally_step F (by omega), if_neg (by omega)]
    exact ih (by omega) (by omega)
theorem szs_bound (F : List Nat) {D i : Nat} (hi : i ≤ F.length) (h : ∀ j, j < F.length → sz (F.getD j 0) + 1 ≤ D) : szs F i ≤ D := by
  induction i with
  | zero => exact Nat.zero_le _
  | succ i ih =>
    have := ih (by omega)
    have := h i (by omega)
    show max _ _ ≤ D
    omega
theorem mostTo_at (L : List Nat) {k : Nat} (hk : 0 < k) : ∃ i, i < k ∧ mostTo L k = sz (L.getD i 0) := by
  induction k with
  | zero => omega
  | succ k ih =>
    by_cases h0 : k = 0
    · subst h0
      refine ⟨0, by omega, ?_⟩
      exact Nat.max_eq_right (Nat.zero_le _)
    · obtain ⟨i, hi, e⟩ := ih (by omega)
      by_cases c : mostTo L k ≤ sz (L.getD k 0)
      · exact ⟨k, by omega, by show max _ _ = _; omega⟩
      · exact ⟨i, by omega, by show max _ _ = _; omega⟩
/-- faces have the sizes that facets have, and the less -/
theorem szs_faces {m : Nat} {L : List Nat} (hL : ∀ b, b ∈ L → b < bit m) (hne : L ≠ []) : szs (those m (freeB L)) (those m (freeB L)).length = mostTo L L.length + 1 := by
  have h0 : 0 < L.length := List.length_pos_iff.2 hne
  apply Nat.le_antisymm
  · refine szs_bound _ (Nat.le_refl _) (fun j hj => ?_)
    have h1 := mem_those.1 (getD_memC hj)
    obtain ⟨f, hf, hs⟩ := face_iff.1 h1.2
    obtain ⟨i, hi, e⟩ := mem_getD hf
    have h2 := mostTo_ge L hi
    have h3 := sz_mono hs
    rw [e] at h2
    omega
  · obtain ⟨i, hi, e⟩ := mostTo_at L h0
    have hm := getD_memC hi
    have : L.getD i 0 ∈ those m (freeB L) := mem_those.2 ⟨hL _ hm, face_iff.2 ⟨_, hm, fun i h => h⟩⟩
    obtain ⟨j, hj, e2⟩ := mem_getD this
    have := szs_ge (those m (freeB L)) hj
    rw [e2] at this
    omega

/-! ### f(z) as powers of 1 - z -/
/-- the powers of z in (1 - z) to the power of i -/
def pas : Nat → Nat → Int
  | 0, 0 => 1
  | 0, _ + 1 => 0
  | i + 1, 0 => pas i 0
  | i + 1, j + 1 => pas i (j + 1) - pas i j
def chs (n : Nat) : Nat → Int
  | 0 => 1
  | k + 1 => chs n k * ((n : Int) - (k : Int)) / ((k : Int) + 1)
theorem pas_chs (n k : Nat) (hn : n ≤ 8) (hk : k ≤ n) : pas n k = if k % 2 = 1 then - chs n k else chs n k := by
  have : ∀ n : Fin 9, ∀ k : Fin 9, k.val ≤ n.val → pas n.val k.val = if k.val % 2 = 1 then - chs n.val k.val else chs n.val k.val := by decide +kernel
  exact this ⟨n, by omega⟩ ⟨k, by omega⟩ hk
theorem chs_bd (n k : Nat) (hn : n ≤ 8) (hk : k ≤ n) : 0 ≤ chs n k ∧ chs n k ≤ 70 := by
  have : ∀ n : Fin 9, ∀ k : Fin 9, k.val ≤ n.val → 0 ≤ chs n.val k.val ∧ chs n.val k.val ≤ 70 := by decide +kernel
  exact this ⟨n, by omega⟩ ⟨k, by omega⟩ hk
theorem chs_pos (n k : Nat) (hn : n ≤ 8) (hk : k ≤ n) : 0 ≤ chs n k * ((n : Int) - (k : Int)) ∧ chs n k * ((n : Int) - (k : Int)) ≤ 560 := by
  have : ∀ n : Fin 9, ∀ k : Fin 9, k.val ≤ n.val → 0 ≤ chs n.val k.val * ((n.val : Int) - (k.val : Int)) ∧ chs n.val k.val * ((n.val : Int) - (k.val : Int)) ≤ 560 := by decide +kernel
  exact this ⟨n, by omega⟩ ⟨k, by omega⟩ hk
theorem pas_bd (n k : Nat) (hn : n ≤ 8) (hk : k ≤ 9) : -70 ≤ pas n k ∧ pas n k ≤ 70 := by
  have : ∀ n : Fin 9, ∀ k : Fin 10, -70 ≤ pas n.val k.val ∧ pas n.val k.val ≤ 70 := by decide +kernel
  exact this ⟨n, by omega⟩ ⟨k, by omega⟩
theorem pas_hi (n k : Nat) (hn : n ≤ 8) (hk : n < k) (h9 : k ≤ 9) : pas n k = 0 := by
  have : ∀ n : Fin 9, ∀ k : Fin 10, n.val < k.val → pas n.val k.val = 0 := by decide +kernel
  exact this ⟨n, by omega⟩ ⟨k, by omega⟩ hk
theorem mul_bd {a b A Bb : Int} (h1 : -A ≤ a) (h2 : a ≤ A) (h3 : -Bb ≤ b) (h4 : b ≤ Bb) : -(A * Bb) ≤ a * b ∧ a * b ≤ A * Bb := by
  have hA : 0 ≤ A := by omega
  have hB : 0 ≤ Bb := by omega
  constructor
  · by_cases ha : 0 ≤ a
    · have e1 : a * (-Bb) ≤ a * b := Int.mul_le_mul_of_nonneg_left h3 ha
      have e2 : a * Bb ≤ A * Bb := Int.mul_le_mul_of_nonneg_right h2 hB
      rw [Int.mul_neg] at e1; omega
    · have e1 : (-a) * b ≤ (-a) * Bb := Int.mul_le_mul_of_nonneg_left h4 (by omega)
      have e2 : (-a) * Bb ≤ A * Bb := Int.mul_le_mul_of_nonneg_right (by omega) hB
      rw [Int.neg_mul] at e1; omega
  · by_cases ha : 0 ≤ a
    · have e1 : a * b ≤ a * Bb := Int.mul_le_mul_of_nonneg_left h4 ha
      have e2 : a * Bb ≤ A * Bb := Int.mul_le_mul_of_nonneg_right h2 hB
      omega
    · have e1 : (-a) * (-b) ≤ (-a) * Bb := Int.mul_le_mul_of_nonneg_left (by omega) (by omega)
      have e2 : (-a) * Bb ≤ A * Bb := Int.mul_le_mul_of_nonneg_right (by omega) hB
      rw [Int.neg_mul_neg] at e1; omega
/-- of the first K powers: what they have of z to the power of t -/
def hs (f : Nat → Int) (d t : Nat) : Nat → Int
  | 0 => 0
  | K + 1 => hs f d t K + if K ≤ t then f K * pas (d - K) (t - K) else 0
theorem hs_bd {f : Nat → Int} {d t : Nat} (hd : d ≤ 8) (ht : t ≤ 9) (hf : ∀ k, 0 ≤ f k ∧ f k ≤ 256) (K : Nat) : -((17920 * K : Nat) : Int) ≤ hs f d t K ∧ hs f d t K ≤ ((17920 * K : Nat) : Int) := by
  induction K with
  | zero => simp [hs]
  | succ K ih =>
    show _ ≤ hs f d t K + _ ∧ hs f d t K + _ ≤ _
    split
    · have h1 := hf K
      have h2 := pas_bd (d - K) (t - K) (by omega) (by omega)
      have h3 := mul_bd (A := 256) (Bb := 70) (show -256 ≤ f K by omega) h1.2 h2.1 h2.2
      omega
    · omega
theorem hs_stop {f : Nat → Int} {d t : Nat} {K : Nat} (h : t < K) : hs f d t K = hs f d t (t + 1) := by
  induction K with
  | zero => omega
  | succ K ih =>
    by_cases e : t = K
    · subst e; rfl
    · show hs f d t K + _ = _
      rw [if_neg (by omega), Int.add_zero]
      exact ih (by omega)

/-! ### the faces of even sizes less the others -/
def eu (f : Nat → Int) : Nat → Int
  | 0 => 0
  | k + 1 => eu f k + f k * (1 - 2 * ((k % 2 : Nat) : Int))
def sg (F : List Nat) : Nat → Int
  | 0 => 0
  | i + 1 => sg F i + (if sz (F.getD i 0) % 2 = 0 then 1 else -1)
theorem eu_bd {f : Nat → Int} (hf : ∀ k, 0 ≤ f k ∧ f k ≤ 256) (K : Nat) : -((256 * K : Nat) : Int) ≤ eu f K ∧ eu f K ≤ ((256 * K : Nat) : Int) := by
  induction K with
  | zero => simp [eu]
  | succ K ih =>
    have h1 := hf K
    show _ ≤ eu f K + _ ∧ eu f K + _ ≤ _
    have h2 : K % 2 = 0 ∨ K % 2 = 1 := by omega
    rcases h2 with h2 | h2
    · rw [h2, show f K * (1 - 2 * ((0 : Nat) : Int)) = f K by simp]; omega
    · rw [h2, show f K * (1 - 2 * ((1 : Nat) : Int)) = - f K by simp]; omega
theorem sg_bd (F : List Nat) (i : Nat) : -(i : Int) ≤ sg F i ∧ sg F i ≤ i := by
  induction i with
  | zero => simp [sg]
  | succ i ih =>
    show _ ≤ sg F i + _ ∧ sg F i + _ ≤ _
    split <;> omega
theorem eu_step {f g : Nat → Int} {q : Nat} (h : ∀ k, g k = if k = q then f k + 1 else f k) (K : Nat) : eu g K = eu f K + (if q < K then (if q % 2 = 0 then 1 else -1) else 0) := by
  induction K with
  | zero => simp [eu]
  | succ K ih =>
    show eu g K + _ = eu f K + _ + _
    rw [ih, h K]
    by_cases e : K = q
    · subst e
      rw [if_pos rfl, if_neg (show ¬ K < K by omega), if_pos (show K < K + 1 by omega)]
      rcases (show K % 2 = 0 ∨ K % 2 = 1 by omega) with c | c
      · rw [c]; simp; omega
      · rw [c]; simp; omega
    · rw [if_neg e]
      by_cases c : q < K
      · rw [if_pos c, if_pos (show q < K + 1 by omega)]; omega
      · rw [if_neg c, if_neg (show ¬ q < K + 1 by omega)]; omega
theorem eu_zero (K : Nat) {f : Nat → Int} (h : ∀ k, f k = 0) : eu f K = 0 := by
  induction K with
  | zero => rfl
  | succ K ih => show eu f K + _ = 0; rw [ih, h]; simp
theorem eu_sg (F : List Nat) {D : Nat} (hD : ∀ j, j < F.length → sz (F.getD j 0) < D) : ∀ i, i ≤ F.length → eu (tally F i) D = sg F i
  | 0, _ => eu_zero D (tally_zero F)
  | i + 1, hi => by
    rw [eu_step (fun k => tally_step F (by omega) k) D, eu_sg F hD i (by omega), if_pos (hD i (by omega))]
    rfl

/-! ### the dual -/
def alex (m : Nat) (L : List Nat) : List Nat := those m (fun s => !freeB L (bit m - 1 - s))
theorem nand_full {m s : Nat} (hm : m ≤ 8) (hs : s < bit m) : nand (bit m - 1) s = bit m - 1 - s := by
  have : ∀ m : Fin 9, ∀ s : Fin 256, s.val < 2 ^ m.val → nand (2 ^ m.val - 1) s.val = 2 ^ m.val - 1 - s.val := by decide +kernel
  have hb := bit_le m hm
  exact this ⟨m, by omega⟩ ⟨s, by omega⟩ hs
/-- the complements of the sets below k that are no faces, as they come -/
def coTo (m : Nat) (L : List Nat) (k : Nat) : List Nat := (thoseTo (fun s => !freeB L s) k).map (fun s => bit m - 1 - s)
theorem coTo_step (m : Nat) (L : List Nat) (k : Nat) : coTo m L (k + 1) = if freeB L k = true then coTo m L k else coTo m L k ++ [bit m - 1 - k] := by
  unfold coTo
  rw [thoseTo_step]
  cases h : freeB L k
  · simp
  · simp
theorem coTo_len (m : Nat) (L : List Nat) (k : Nat) : (coTo m L k).length ≤ k := by
  unfold coTo; rw [List.length_map]; exact thoseTo_len _ _
theorem coTo_mem {m : Nat} {L : List Nat} {x : Nat} : x ∈ coTo m L (bit m) ↔ x ∈ alex m L := by
  have hp : 1 ≤ bit m := Nat.one_le_two_pow
  unfold coTo alex
  rw [List.mem_map, mem_those]
  constructor
  · rintro ⟨s, hs, rfl⟩
    have h : s < bit m ∧ (!freeB L s) = true := mem_those.1 hs
    refine ⟨by omega, ?_⟩
    rw [show bit m - 1 - (bit m - 1 - s) = s by omega]
    exact h.2
  · rintro ⟨h1, h2⟩
    exact ⟨bit m - 1 - x, mem_those.2 ⟨by omega, h2⟩, by omega⟩
theorem srt_nodup {m : Nat} {p : Nat → Bool} {xs : List Nat} (hn : xs.Nodup) (h : ∀ x, x ∈ xs ↔ x ∈ those m p) : srt (ints xs) = ints (those m p) := by
  refine pw_ext ?_ (those_pw m p) (fun x => ?_)
  · have h1 := srt_pw (ints xs)
    have h2 : (srt (ints xs)).Nodup := (List.mergeSort_perm (ints xs) _).nodup_iff.2 (by
      unfold ints
      exact List.Pairwise.map _ (fun a b hab => by omega) hn)
    exact (h1.and h2).imp (fun hab => by omega)
  · rw [srt_mem, mem_ints2, mem_ints2]
    constructor
    · rintro ⟨n, h1, e⟩; exact ⟨n, (h n).1 h1, e⟩
    · rintro ⟨n, h1, e⟩; exact ⟨n, (h n).2 h1, e⟩
theorem srt_co {m : Nat} (L : List Nat) : srt (ints (coTo m L (bit m))) = ints (alex m L) := by
  refine srt_nodup ?_ (fun x => coTo_mem)
  unfold coTo
  have h1 : (those m (fun s => !freeB L s)).Pairwise (· < ·) := those_pwN _ _
  have h2 : ∀ s, s ∈ those m (fun s => !freeB L s) → s < bit m := fun s hs => (mem_those.1 hs).1
  refine List.pairwise_map.2 (List.Pairwise.imp_of_mem (fun {a b} ha hb hab => ?_) h1)
  have := h2 a ha
  have := h2 b hb
  omega
theorem alex_ref (m : Nat) (L : List Nat) : those m (fun s => !decide ((bit m - 1 - s) ∈ those m (freeB L))) = alex m L := by
  unfold alex
  refine those_congr (fun s hs => ?_)
  congr 1
  rw [Bool.eq_iff_iff, decide_eq_true_eq, mem_those]
  exact ⟨fun h => h.2, fun h => ⟨by omega, h⟩⟩
theorem most_nil (m : Nat) : those m (mostB []) = [] := by
  unfold those
  rw [List.filter_eq_nil_iff]
  intro s _
  simp [mostB]
theorem most_ne {m : Nat} {M : List Nat} (hlt : ∀ b, b ∈ M → b < bit m) (hne : M ≠ []) : those m (mostB M) ≠ [] := by
  obtain ⟨v, hv⟩ := List.exists_mem_of_ne_nil M hne
  have key : ∀ k v, v ∈ M → bit m - v ≤ k → ∃ b, mostB M b = true := by
    intro k
    induction k with
    | zero => intro v hv h; have := hlt v hv; omega
    | succ k ih =>
      intro v hv h
      by_cases c : ∀ x, x ∈ M → sub v x → x = v
      · exact ⟨v, mostB_iff.2 ⟨hv, c⟩⟩
      · simp only [Classical.not_forall] at c
        obtain ⟨x, hx, hs, he⟩ := c
        have h2 : v ≤ v ||| x := Nat.left_le_or
        rw [or_eq_iff.2 hs] at h2
        exact ih x hx (by omega)
  obtain ⟨b, hb⟩ := key (bit m - v) v hv (Nat.le_refl _)
  intro e
  have : b ∈ those m (mostB M) := mem_those.2 ⟨hlt b (mostB_iff.1 hb).1, hb⟩
  rw [e] at this
  cases this

/-! ### the link -/
def lnkTo (L : List Nat) (s k : Nat) : List Nat := ((L.take k).filter (fun f => decide (f &&& s = s))).map (fun f => nand f s)
theorem lnkTo_step (L : List Nat) (s : Nat) {k : Nat} (hk : k < L.length) : lnkTo L s (k + 1) = if L.getD k 0 &&& s = s then lnkTo L s k ++ [nand (L.getD k 0) s] else lnkTo L s k := by
  unfold lnkTo
  rw [List.take_add_one, List.getElem?_eq_getElem hk, List.filter_append, List.map_append]
  have : L.getD k 0 = L[k] := by simp [hk]
  rw [this]
  by_cases h : L[k] &&& s = s
  · simp [h]
  · simp [h]
theorem lnkTo_len (L : List Nat) (s k : Nat) : (lnkTo L s k).length ≤ L.length := by
  unfold lnkTo
  rw [List.length_map]
  have h1 := List.length_filter_le (fun f => decide (f &&& s = s)) (L.take k)
  have h3 : (L.take k).length ≤ L.length := by simp; omega
  omega
theorem lnk_nil {L : List Nat} {s : Nat} : lnkTo L s L.length = [] ↔ freeB L s = false := by
  unfold lnkTo
  rw [List.take_length, List.map_eq_nil_iff, List.filter_eq_nil_iff, Bool.eq_false_iff, ne_eq, face_iff]
  constructor
  · rintro h ⟨f, hf, hs⟩
    exact h f hf (decide_eq_true (by rw [Nat.and_comm]; exact and_eq_iff.2 hs))
  · intro h f hf e
    exact h ⟨f, hf, and_eq_iff.1 (by rw [Nat.and_comm]; exact of_decide_eq_true e)⟩
theorem nand_sub {f s : Nat} (hf : f < 256) (hs : s < 256) (h : f &&& s = s) : nand f s = f - s := by
  have : ∀ f : Fin 256, ∀ s : Fin 256, f.val &&& s.val = s.val → nand f.val s.val = f.val - s.val := by decide +kernel
  exact this ⟨f, hf⟩ ⟨s, hs⟩ h

end Go.Proofs.Ytjpcelldbhdneaa
