
/-
  Matrices that are read: rows of numbers in a list of lists.
  Flows in a net, plainly: what leads out of a set of places; a way through takes one from each; sets of vertices that bar and sets of places. No program in sight.
-/
import Derived.Test.YtdcdhdlklppalaaPk06
import Derived.Test.YtdcdhdlklppalaaPk08
namespace Go.Proofs.Ytdcdhdlklppalaa
open Go.RowKit
set_option linter.unusedVariables false

abbrev Lls := List (List Int)
/-- lists of numbers that lie at blocks below B -/
def RowsI (B : Nat) (w : World) (ad : Option Addr) (rows : Lls) : Prop := rows ≠ [] → ∃ b off, ad = some ⟨b, off, none⟩ ∧ b < B ∧ ∀ i, i < rows.length → ∃ ad' cp', w.cell? ⟨b, off + i, none⟩ = some (.slice ad' (rows.getD i []).length cp') ∧ IntsAt B w ad' (rows.getD i []) ∧ (ad' = none → cp' = 0)
theorem RowsI.nil (B : Nat) (w : World) (ad : Option Addr) : RowsI B w ad [] := fun h => absurd rfl h
theorem RowsI.mono {B B' : Nat} {w : World} {ad : Option Addr} {rows : Lls} (h : RowsI B w ad rows) (hb : B ≤ B') : RowsI B' w ad rows := fun hne => by
  obtain ⟨b, off, e, hl, hr⟩ := h hne
  refine ⟨b, off, e, by omega, fun i hi => ?_⟩
  obtain ⟨ad', cp', hc, hI, hn⟩ := hr i hi
  exact ⟨ad', cp', hc, hI.mono hb, hn⟩
theorem RowsI.later {B : Nat} {w w' : World} {ad : Option Addr} {rows : Lls} (h : RowsI B w ad rows) (hb : Below B w w') : RowsI B w' ad rows := fun hne => by
  obtain ⟨b, off, e, hl, hr⟩ := h hne
  refine ⟨b, off, e, hl, fun i hi => ?_⟩
  obtain ⟨ad', cp', hc, hI, hn⟩ := hr i hi
  refine ⟨ad', cp', ?_, hI.later hb, hn⟩
  rw [World.cell?_of_block (w := w) (hb.block b hl)]; exact hc
theorem RowsI.to {B : Nat} {w : World} {ad : Option Addr} {rows : Lls} (h : RowsI B w ad rows) (u : Later B w) : RowsI u.val.heap.size u.val ad rows := (h.later u.below).mono u.size
theorem RowsI.at {B : Nat} {W : World} {ad : Option Addr} {rows : Lls} (h : RowsI B W ad rows) {k : Nat} (hk : k < rows.length) : ∃ b off, ad = some ⟨b, off, none⟩ ∧ b < B ∧ ∀ i, i < rows.length → ∃ ad' cp', IntsAt B W ad' (rows.getD i []) ∧ ∀ u : Later B W, u.val.cell? ⟨b, off + i, none⟩ = some (.slice ad' (rows.getD i []).length cp') := by
  obtain ⟨b, off, e, hl, hr⟩ := h (by rintro rfl; simp at hk)
  refine ⟨b, off, e, hl, fun i hi => ?_⟩
  obtain ⟨ad', cp', hc, hI, _⟩ := hr i hi
  exact ⟨ad', cp', hI, fun u => by rw [World.cell?_of_block (w := W) (u.below.block b hl)]; exact hc⟩
theorem RowsI.atN {B : Nat} {W : World} {ad : Option Addr} {rows : Lls} (h : RowsI B W ad rows) {k : Nat} (hk : k < rows.length) : ∃ b off, ad = some ⟨b, off, none⟩ ∧ b < B ∧ ∃ ad' cp', IntsAt B W ad' (rows.getD k []) ∧ (ad' = none → cp' = 0) ∧ ∀ u : Later B W, u.val.cell? ⟨b, off + k, none⟩ = some (.slice ad' (rows.getD k []).length cp') := by
  obtain ⟨b, off, e, hl, hr⟩ := h (by rintro rfl; simp at hk)
  obtain ⟨ad', cp', hc, hI, hn⟩ := hr k hk
  exact ⟨b, off, e, hl, ad', cp', hI, hn, fun u => by rw [World.cell?_of_block (w := W) (u.below.block b hl)]; exact hc⟩
/-- the number at a place -/
def ent (rows : Lls) (i j : Nat) : Int := (rows.getD i []).getD j 0

/-- a matrix modulo a prime -/
def isMatrix (p c : Int) (rows : Lls) : Prop := (p = 2 ∨ p = 3 ∨ p = 5 ∨ p = 7) ∧ (0 ≤ c ∧ c ≤ 8) ∧ rows.length ≤ 6 ∧ ∀ i, i < rows.length → ((rows.getD i []).length : Int) = c ∧ ∀ k, k < (rows.getD i []).length → 0 ≤ ent rows i k ∧ ent rows i k < p
def rowOk (p c : Int) (row : List Int) : Prop := (row.length : Int) = c ∧ ∀ k, k < row.length → 0 ≤ row.getD k 0 ∧ row.getD k 0 < p
instance (p c : Int) (row : List Int) : Decidable (rowOk p c row) := by unfold rowOk; infer_instance
instance (p c : Int) (rows : Lls) : Decidable (isMatrix p c rows) := by
  unfold isMatrix
  have : (∀ i, i < rows.length → ((rows.getD i []).length : Int) = c ∧ ∀ k, k < (rows.getD i []).length → 0 ≤ ent rows i k ∧ ent rows i k < p) ↔ ∀ i, i < rows.length → rowOk p c (rows.getD i []) := Iff.rfl
  infer_instance

end Go.Proofs.Ytdcdhdlklppalaa

namespace Go.Proofs.Ytdcdhdlklppalaa
set_option linter.unusedVariables false

/-- what leads from a set of places to the others -/
def capS (N : Nat) (p : Nat → Nat → Int) (S : Nat → Bool) : Int := isum (fun i => isum (fun j => if S i = true ∧ S j = false then p i j else 0) N) N
/-- one entry changed -/
def updM (p : Nat → Nat → Int) (a b : Nat) (d : Int) : Nat → Nat → Int := fun i j => if i = a ∧ j = b then p i j + d else p i j
theorem updM_at (p : Nat → Nat → Int) (a b : Nat) (d : Int) : updM p a b d a b = p a b + d := by unfold updM; rw [if_pos ⟨rfl, rfl⟩]
theorem updM_ne (p : Nat → Nat → Int) {a b i j : Nat} (d : Int) (h : ¬ (i = a ∧ j = b)) : updM p a b d i j = p i j := by unfold updM; rw [if_neg h]
def bti (b : Bool) : Int := if b = true then 1 else 0

theorem capS_upd {N : Nat} (p : Nat → Nat → Int) (S : Nat → Bool) {a b : Nat} (d : Int) (ha : a < N) (hb : b < N) :
    capS N (updM p a b d) S = capS N p S + if S a = true ∧ S b = false then d else 0 := by
  have e : ∀ i, i < N → isum (fun j => if S i = true ∧ S j = false then updM p a b d i j else 0) N = isum (fun j => if S i = true ∧ S j = false then p i j else 0) N + (if i = a then (if S a = true ∧ S b = false then d else 0) else 0) := by
    intro i hi
    by_cases c : i = a
    · subst c
      rw [if_pos rfl]
      rw [← isum_pick (g := fun _ => if S i = true ∧ S b = false then d else 0) hb, ← isum_add]
      refine isum_congr fun j hj => ?_
      by_cases cb : j = b
      · subst cb
        rw [if_pos rfl, updM_at]
        split <;> omega
      · rw [if_neg cb, updM_ne _ _ (by rintro ⟨_, h⟩; exact cb h)]; omega
    · rw [if_neg c]
      rw [isum_congr (fun j hj => by rw [updM_ne p (a := a) (b := b) (i := i) (j := j) d (by rintro ⟨h, _⟩; exact c h)])]
      omega
  unfold capS
  rw [isum_congr e, isum_add, isum_pick (g := fun _ => if S a = true ∧ S b = false then d else 0) ha]

/-- one step of a way: one less there, one more back -/
def stepM (p : Nat → Nat → Int) (a b : Nat) : Nat → Nat → Int := updM (updM p a b (-1)) b a 1
theorem capS_step {N : Nat} (p : Nat → Nat → Int) (S : Nat → Bool) {a b : Nat} (ha : a < N) (hb : b < N) :
    capS N (stepM p a b) S = capS N p S - bti (S a) + bti (S b) := by
  unfold stepM
  rw [capS_upd _ _ _ hb ha, capS_upd _ _ _ ha hb]
  unfold bti
  cases S a <;> cases S b <;> simp <;> omega
theorem isum_nonneg {f : Nat → Int} {n : Nat} (h : ∀ i, i < n → 0 ≤ f i) : 0 ≤ isum f n := by
  induction n with
  | zero => exact Int.le_refl _
  | succ n ih =>
    have h1 := ih (fun i hi => h i (by omega))
    have h2 := h n (by omega)
    simp only [isum]; omega
theorem isum_monoM {f g : Nat → Int} {n : Nat} (h : ∀ i, i < n → f i ≤ g i) : isum f n ≤ isum g n := by
  induction n with
  | zero => exact Int.le_refl _
  | succ n ih =>
    have h1 := ih (fun i hi => h i (by omega))
    have h2 := h n (by omega)
    simp only [isum]; omega
theorem isum_ge_one {f : Nat → Int} {n k : Nat} (h : ∀ i, i < n → 0 ≤ f i) (hk : k < n) : f k ≤ isum f n := by
  induction n with
  | zero => omega
  | succ n ih =>
    have h2 := h n (by omega)
    simp only [isum]
    by_cases c : k = n
    · subst c
      have := isum_nonneg (f := f) (n := k) (fun i hi => h i (by omega))
      omega
    · have h1 := ih (fun i hi => h i (by omega)) (by omega)
      omega
theorem capS_nonneg {N : Nat} {p : Nat → Nat → Int} (S : Nat → Bool) (h : ∀ i j, i < N → j < N → 0 ≤ p i j) : 0 ≤ capS N p S :=
  isum_nonneg fun i hi => isum_nonneg fun j hj => by split <;> first | exact h i j hi hj | exact Int.le_refl _
theorem capS_closed {N : Nat} {p : Nat → Nat → Int} {S : Nat → Bool} (h : ∀ i j, i < N → j < N → S i = true → 0 < p i j → S j = true) : capS N p S ≤ 0 := by
  have : capS N p S ≤ isum (fun _ => 0) N := isum_monoM fun i hi => by
    have h2 : isum (fun j => if S i = true ∧ S j = false then p i j else 0) N ≤ isum (fun _ => 0) N := isum_monoM fun j hj => by
      split
      case isTrue c =>
        apply Classical.byContradiction
        intro g
        have := h i j hi hj c.1 (by omega)
        rw [c.2] at this; cases this
      case isFalse c => exact Int.le_refl _
    rw [isum_zero (fun _ _ => rfl)] at h2
    exact h2
  rw [isum_zero (fun _ _ => rfl)] at this
  exact this

/-- a number that some set of places with the beginning and without the end lets out, and none less -/
def MinCut (N : Nat) (p : Nat → Nat → Int) (n : Int) : Prop := (∃ S : Nat → Bool, S 0 = true ∧ S 1 = false ∧ capS N p S = n) ∧ ∀ S : Nat → Bool, S 0 = true → S 1 = false → n ≤ capS N p S
/-- after n ways through nothing goes through any more -/
theorem minCut_of {N : Nat} {p0 p : Nat → Nat → Int} {n : Int} (hnn : ∀ i j, i < N → j < N → 0 ≤ p i j)
    (hcap : ∀ S : Nat → Bool, S 0 = true → S 1 = false → capS N p S = capS N p0 S - n)
    (S : Nat → Bool) (h0 : S 0 = true) (h1 : S 1 = false) (hcl : ∀ i j, i < N → j < N → S i = true → 0 < p i j → S j = true) : MinCut N p0 n := by
  have a := capS_closed hcl
  have b := capS_nonneg S hnn
  refine ⟨⟨S, h0, h1, ?_⟩, fun T t0 t1 => ?_⟩
  · have := hcap S h0 h1; omega
  · have c := capS_nonneg T hnn
    have := hcap T t0 t1; omega
theorem MinCut.uniq {N : Nat} {p : Nat → Nat → Int} {n k : Int} (h : MinCut N p n) (g : MinCut N p k) : n = k := by
  obtain ⟨⟨S, s0, s1, e⟩, l⟩ := h
  obtain ⟨⟨T, t0, t1, e'⟩, l'⟩ := g
  have := l T t0 t1
  have := l' S s0 s1
  omega

/-! ### a search -/
/-- what a search has found: a list of places, each behind the first reached from one ahead of it; all that the first d of it reach is in it, and of the next one what is below k -/
structure Bfs (N : Nat) (p : Nat → Nat → Int) (Q : List Nat) (C : Nat → Int) (d k : Nat) : Prop where
  pos : 0 < Q.length
  first : Q.getD 0 0 = 0
  lt : ∀ i, i < Q.length → Q.getD i 0 < N
  had : ∀ v, v < N → (0 ≤ C v ↔ v ∈ Q)
  back : ∀ i, 0 < i → i < Q.length → ∃ j, j < i ∧ C (Q.getD i 0) = (Q.getD j 0 : Int) ∧ 0 < p (Q.getD j 0) (Q.getD i 0)
  inj : ∀ i j, i < j → j < Q.length → Q.getD i 0 ≠ Q.getD j 0
  done : ∀ j, j < d → ∀ v, v < N → 0 < p (Q.getD j 0) v → v ∈ Q
  now : ∀ v, v < k → v < N → 0 < p (Q.getD d 0) v → v ∈ Q

theorem getD_snoc_lt {Q : List Nat} {x i : Nat} (h : i < Q.length) : (Q ++ [x]).getD i 0 = Q.getD i 0 := by
  rw [List.getD_eq_getElem?_getD, List.getD_eq_getElem?_getD, List.getElem?_append_left h]
theorem getD_snoc_eq (Q : List Nat) (x : Nat) : (Q ++ [x]).getD Q.length 0 = x := by simp
theorem mem_getD {Q : List Nat} {i : Nat} (h : i < Q.length) : Q.getD i 0 ∈ Q := by
  have : Q.getD i 0 = Q[i] := by simp [h]
  rw [this]; exact List.getElem_mem h
theorem getD_of_mem {Q : List Nat} {x : Nat} (h : x ∈ Q) : ∃ i, i < Q.length ∧ Q.getD i 0 = x := by
  obtain ⟨i, hi, e⟩ := List.mem_iff_getElem.1 h
  exact ⟨i, hi, by simp [hi, e]⟩

/-- distinct numbers below N are at most N -/
theorem inj_len : ∀ (N : Nat) (f : Nat → Nat) (n : Nat), (∀ i, i < n → f i < N) → (∀ i j, i < j → j < n → f i ≠ f j) → n ≤ N := by
  intro N
  induction N with
  | zero =>
    intro f n h _
    cases n with
    | zero => exact Nat.le_refl _
    | succ n => have := h 0 (by omega); omega
  | succ N ih =>
    intro f n h hi
    by_cases c : ∃ k, k < n ∧ f k = N
    · obtain ⟨k, hk, ek⟩ := c
      cases n with
      | zero => omega
      | succ n =>
        -- leave k out
        have h2 := ih (fun i => if i < k then f i else f (i + 1)) n ?_ ?_
        · omega
        · intro i hin
          show (if i < k then f i else f (i + 1)) < N
          split
          case isTrue c =>
            have := h i (by omega)
            have := hi i k c hk
            omega
          case isFalse c =>
            have := h (i + 1) (by omega)
            have := hi k (i + 1) (by omega) (by omega)
            omega
        · intro i j hij hj
          show (if i < k then f i else f (i + 1)) ≠ (if j < k then f j else f (j + 1))
          split <;> split <;> first | exact hi _ _ (by omega) (by omega) | omega
    · have := ih f n (fun i hi' => by
        have h1 := h i hi'
        have h2 : f i ≠ N := fun e => c ⟨i, hi', e⟩
        omega) hi
      omega
theorem Bfs.len {N p Q C d k} (h : Bfs N p Q C d k) : Q.length ≤ N := inj_len N (fun i => Q.getD i 0) Q.length h.lt h.inj

theorem Bfs.start {N : Nat} (hN : 0 < N) (p : Nat → Nat → Int) (C : Nat → Int) (hC : ∀ v, v < N → C v = if v = 0 then 0 else -1) : Bfs N p [0] C 0 0 where
  pos := by simp
  first := rfl
  lt := fun i hi => by simp at hi; subst hi; exact hN
  had := fun v hv => by
    rw [hC v hv]
    by_cases e : v = 0
    · simp [e]
    · simp [e]
  back := fun i h0 hi => by simp at hi; omega
  inj := fun i j hij hj => by simp at hj; omega
  done := fun j hj => by omega
  now := fun v hv => by omega
/-- the next place is had already, or isn't reached -/
theorem Bfs.skip {N p Q C d k} (h : Bfs N p Q C d k) (hk : k < N) (g : ¬ (0 < p (Q.getD d 0) k ∧ C k < 0)) : Bfs N p Q C d (k + 1) :=
  ⟨h.pos, h.first, h.lt, h.had, h.back, h.inj, h.done, fun v hv hvN hp => by
    by_cases e : v = k
    · subst e
      apply Classical.byContradiction
      intro c
      apply g
      refine ⟨hp, ?_⟩
      have := mt (h.had v hvN).1 c
      omega
    · exact h.now v (by omega) hvN hp⟩
/-- it is found -/
theorem Bfs.find {N p Q C d k} (h : Bfs N p Q C d k) (hd : d < Q.length) (hk : k < N) (g1 : 0 < p (Q.getD d 0) k) (g2 : C k < 0) {C' : Nat → Int} (hC : ∀ v, v < N → C' v = if v = k then (Q.getD d 0 : Int) else C v) :
    Bfs N p (Q ++ [k]) C' d (k + 1) := by
  have hnk : k ∉ Q := fun c => by have := (h.had k hk).2 c; omega
  have hne : ∀ i, i < Q.length → Q.getD i 0 ≠ k := fun i hi e => hnk (e ▸ mem_getD hi)
  refine ⟨by simp, by rw [getD_snoc_lt h.pos]; exact h.first, fun i hi => ?_, fun v hv => ?_, fun i h0 hi => ?_, fun i j hij hj => ?_, fun j hj v hv hp => ?_, fun v hv hvN hp => ?_⟩
  · simp at hi
    by_cases c : i < Q.length
    · rw [getD_snoc_lt c]; exact h.lt i c
    · have : i = Q.length := by omega
      subst this
      rw [getD_snoc_eq]; exact hk
  · rw [hC v hv]
    by_cases e : v = k
    · subst e
      rw [if_pos rfl]
      simp
    · rw [if_neg e, h.had v hv]
      simp [e]
  · simp at hi
    by_cases c : i < Q.length
    · obtain ⟨j, h1, h2, h3⟩ := h.back i h0 c
      refine ⟨j, h1, ?_⟩
      rw [getD_snoc_lt c, getD_snoc_lt (by omega : j < Q.length), hC _ (h.lt i c), if_neg (hne i c)]
      exact ⟨h2, h3⟩
    · have : i = Q.length := by omega
      subst this
      refine ⟨d, hd, ?_⟩
      rw [getD_snoc_eq, getD_snoc_lt hd, hC k hk, if_pos rfl]
      exact ⟨rfl, g1⟩
  · simp at hj
    rw [getD_snoc_lt (by omega : i < Q.length)]
    by_cases c : j < Q.length
    · rw [getD_snoc_lt c]; exact h.inj i j hij c
    · have : j = Q.length := by omega
      subst this
      rw [getD_snoc_eq]; exact hne i hij
  · rw [getD_snoc_lt (by omega : j < Q.length)] at hp
    exact List.mem_append_left _ (h.done j hj v hv hp)
  · rw [getD_snoc_lt hd] at hp
    by_cases e : v = k
    · subst e; simp
    · exact List.mem_append_left _ (h.now v (by omega) hvN hp)
theorem Bfs.next {N p Q C d} (h : Bfs N p Q C d N) : Bfs N p Q C (d + 1) 0 :=
  ⟨h.pos, h.first, h.lt, h.had, h.back, h.inj, fun j hj v hv hp => by
    by_cases e : j = d
    · subst e; exact h.now v hv hv hp
    · exact h.done j (by omega) v hv hp, fun v hv => by omega⟩
/-- the end isn't found -/
theorem Bfs.none {N p Q C d k} (h : Bfs N p Q C d k) (hN : 1 < N) (hd : d = Q.length) (h1 : C 1 < 0) {p0 : Nat → Nat → Int} {n : Int} (hnn : ∀ i j, i < N → j < N → 0 ≤ p i j)
    (hcap : ∀ S : Nat → Bool, S 0 = true → S 1 = false → capS N p S = capS N p0 S - n) : MinCut N p0 n := by
  refine minCut_of hnn hcap (fun v => decide (v ∈ Q)) ?_ ?_ ?_
  · have := mem_getD h.pos
    rw [h.first] at this
    simpa using this
  · have : ¬ 1 ∈ Q := fun c => by have := (h.had 1 hN).2 c; omega
    simpa using this
  · intro i j hi hj hs hp
    simp at hs
    obtain ⟨x, hx, e⟩ := getD_of_mem hs
    rw [← e] at hp
    simpa using h.done x (by omega) j hj hp

/-- on the way back: what has been taken so far -/
structure Back (N : Nat) (p0 : Nat → Nat → Int) (Q : List Nat) (C : Nat → Int) (i : Nat) (p : Nat → Nat → Int) : Prop where
  lt : i < Q.length
  nn : ∀ a b, a < N → b < N → 0 ≤ p a b
  left : ∀ k, 0 < k → k ≤ i → ∀ a, a < N → C (Q.getD k 0) = (a : Int) → 1 ≤ p a (Q.getD k 0)
  cap : ∀ S : Nat → Bool, capS N p S = capS N p0 S - bti (S (Q.getD i 0)) + bti (S 1)
theorem Bfs.turn {N p Q C d k} (h : Bfs N p Q C d k) (hnn : ∀ i j, i < N → j < N → 0 ≤ p i j) {i : Nat} (hi : i < Q.length) (h1 : Q.getD i 0 = 1) : Back N p Q C i p where
  lt := hi
  nn := hnn
  left := fun k h0 hk a ha hc => by
    obtain ⟨j, g1, g2, g3⟩ := h.back k h0 (by omega)
    rw [g2] at hc
    have : Q.getD j 0 = a := by omega
    rw [this] at g3
    omega
  cap := fun S => by rw [h1]; omega
/-- one step back -/
theorem Back.step {N p0 Q C d k0 i p} (b : Back N p0 Q C i p) (h : Bfs N p0 Q C d k0) (h0 : 0 < i) : ∃ j, j < i ∧ C (Q.getD i 0) = (Q.getD j 0 : Int) ∧ Back N p0 Q C j (stepM p (Q.getD j 0) (Q.getD i 0)) := by
  obtain ⟨j, g1, g2, g3⟩ := h.back i h0 b.lt
  have hj : j < Q.length := by have := b.lt; omega
  have la := h.lt j hj
  have lb := h.lt i b.lt
  have hne := h.inj j i g1 b.lt
  have hone := b.left i h0 (Nat.le_refl _) _ la g2
  refine ⟨j, g1, g2, hj, fun x y hx hy => ?_, fun k hk0 hk a ha hc => ?_, fun S => ?_⟩
  · unfold stepM
    have := b.nn x y hx hy
    by_cases c : x = Q.getD i 0 ∧ y = Q.getD j 0
    · obtain ⟨rfl, rfl⟩ := c
      rw [updM_at, updM_ne _ _ (by rintro ⟨e, _⟩; exact hne e.symm)]
      omega
    · rw [updM_ne _ _ c]
      by_cases c2 : x = Q.getD j 0 ∧ y = Q.getD i 0
      · obtain ⟨rfl, rfl⟩ := c2
        rw [updM_at]; omega
      · rw [updM_ne _ _ c2]; exact this
  · have hl := b.left k hk0 (by omega) a ha hc
    have hki := h.inj k i (by omega) b.lt
    unfold stepM
    by_cases c : a = Q.getD i 0 ∧ Q.getD k 0 = Q.getD j 0
    · obtain ⟨rfl, e⟩ := c
      rw [e, updM_at, updM_ne _ _ (by rintro ⟨e, _⟩; exact hne e.symm)]
      rw [e] at hl
      omega
    · rw [updM_ne _ _ c, updM_ne _ _ (by rintro ⟨_, e⟩; exact hki e)]
      exact hl
  · unfold stepM
    have := capS_step p S la lb
    unfold stepM at this
    rw [this, b.cap S]
    omega

end Go.Proofs.Ytdcdhdlklppalaa
