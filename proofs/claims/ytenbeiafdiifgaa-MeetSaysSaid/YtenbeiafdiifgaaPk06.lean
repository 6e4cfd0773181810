
/-
  The search by layers, its steps, plainly. No program in sight.
  Contracts over lists of numbers: IsFamily, Family (a rising list of sets), Index, Contains, Has, BinarySearch, has; of the law's own small helpers: Same, list, one, bad.
-/
import Derived.Test.YtenbeiafdiifgaaPk05
import Derived.Test.YtenbeiafdiifgaaPk03
import Derived.Test.YtenbeiafdiifgaaPk01
namespace Go.Proofs.Ytenbeiafdiifgaa
set_option linter.unusedVariables false

section
variable (n s : Nat) (x y : Nat → Nat)
def srcB (i : Nat) : Bool := !s.testBit i && decide (x (s ||| bit i) = sz (s ||| bit i))
/-- the first elements that begin a way -/
def qS (k : Nat) : List Nat := (List.range k).filter (srcB s x)
def cS (k : Nat) (i : Nat) : Int := if i < k ∧ srcB s x i = true then -1 else -2
end
section
variable {n s : Nat} {x y : Nat → Nat} {c : Nat → Int} {Q : List Nat} {q : Nat}
theorem srcB_iff (i : Nat) : srcB s x i = true ↔ srcE s x i := by
  unfold srcB srcE
  simp
theorem qS_step (k : Nat) : qS s x (k + 1) = if srcB s x k = true then qS s x k ++ [k] else qS s x k := by
  unfold qS
  rw [List.range_succ, List.filter_append]
  split <;> simp_all
theorem cS_step (k i : Nat) : cS s x (k + 1) i = if i = k ∧ srcB s x k = true then -1 else cS s x k i := by
  unfold cS
  by_cases e : i = k
  · subst e
    by_cases h : srcB s x i = true
    · simp [h]
    · simp [h]
  · by_cases h : srcB s x i = true
    · by_cases d : i < k
      · rw [if_pos ⟨by omega, h⟩, if_neg (fun h => e h.1), if_pos ⟨d, h⟩]
      · rw [if_neg (by omega), if_neg (fun h => e h.1), if_neg (by omega)]
    · rw [if_neg (fun g => h g.2), if_neg (fun g => e g.1), if_neg (fun g => h g.2)]
theorem qS_len (k : Nat) : (qS s x k).length ≤ k := by
  unfold qS
  have := List.length_filter_le (srcB s x) (List.range k)
  rwa [List.length_range] at this
theorem qS_mem {k i : Nat} : i ∈ qS s x k ↔ i < k ∧ srcB s x i = true := by simp [qS]
theorem getD_mem {Q : List Nat} {j : Nat} (h : j < Q.length) : Q.getD j 0 ∈ Q := by
  rw [List.getD_eq_getElem?_getD, List.getElem?_eq_getElem h]
  simp
theorem mem_getD {Q : List Nat} {i : Nat} : i ∈ Q ↔ ∃ j, j < Q.length ∧ Q.getD j 0 = i := by
  constructor
  · intro h
    obtain ⟨j, hj, e⟩ := List.getElem_of_mem h
    exact ⟨j, hj, by rw [List.getD_eq_getElem?_getD, List.getElem?_eq_getElem hj]; exact e⟩
  · rintro ⟨j, hj, e⟩
    rw [← e]; exact getD_mem hj
theorem Bq.start (n s : Nat) (x y : Nat → Nat) : Bq n s x y (cS s x n) (qS s x n) 0 where
  lt := fun j hj => (qS_mem.1 (getD_mem hj)).1
  inj := fun i j hij hj => by
    have hp : (qS s x n).Pairwise (· < ·) := List.Pairwise.filter _ List.pairwise_lt_range
    rw [List.pairwise_iff_getElem] at hp
    have := hp i j (by omega) hj hij
    simp only [List.getD_eq_getElem?_getD, List.getElem?_eq_getElem hj, List.getElem?_eq_getElem (show i < (qS s x n).length by omega), Option.getD_some]
    omega
  seen := fun i hi => by
    rw [← mem_getD, qS_mem]
    unfold cS
    by_cases h : srcB s x i = true
    · rw [if_pos ⟨hi, h⟩]; simp [hi, h]
    · rw [if_neg (fun g => h g.2)]; simp [h]
  src := fun i hi h => mem_getD.1 (qS_mem.2 ⟨hi, (srcB_iff i).2 h⟩)
  came := fun j hj => by
    have h := qS_mem.1 (getD_mem hj)
    exact .inl ⟨by unfold cS; rw [if_pos h], (srcB_iff _).1 h.2⟩
  done := fun a ha => by omega
theorem getD_app {Q : List Nat} {k j : Nat} (h : j < Q.length) : (Q ++ [k]).getD j 0 = Q.getD j 0 := by
  rw [List.getD_eq_getElem?_getD, List.getElem?_append_left h, ← List.getD_eq_getElem?_getD]
theorem getD_end {Q : List Nat} {k : Nat} : (Q ++ [k]).getD Q.length 0 = k := by
  rw [List.getD_eq_getElem?_getD, List.getElem?_append_right (Nat.le_refl _)]; simp
/-- one found from the place at hand -/
theorem Bq.find (h : Bq n s x y c Q q) (hq : q < Q.length) {k : Nat} (hk : k < n) (hc : c k = -2) (he : edE s x y (Q.getD q 0) k) : Bq n s x y (fun i => if i = k then (Q.getD q 0 : Nat) else c i) (Q ++ [k]) q := by
  have hno : ∀ j, j < Q.length → Q.getD j 0 ≠ k := fun j hj e => (h.seen k hk).2 ⟨j, hj, e⟩ hc
  have hlen : (Q ++ [k]).length = Q.length + 1 := by simp
  exact {
    lt := fun j hj => by
      by_cases d : j < Q.length
      · rw [getD_app d]; exact h.lt j d
      · rw [show j = Q.length by omega, getD_end]; exact hk
    inj := fun i j hij hj => by
      by_cases d : j < Q.length
      · rw [getD_app d, getD_app (by omega)]; exact h.inj i j hij d
      · rw [show j = Q.length by omega, getD_end, getD_app (by omega)]
        exact hno i (by omega)
    seen := fun i hi => by
      by_cases d : i = k
      · subst d
        rw [if_pos rfl]
        exact ⟨fun _ => ⟨Q.length, by omega, getD_end⟩, fun _ => by omega⟩
      · rw [if_neg d, h.seen i hi]
        constructor
        · rintro ⟨j, hj, e⟩
          exact ⟨j, by omega, by rw [getD_app hj]; exact e⟩
        · rintro ⟨j, hj, e⟩
          by_cases f : j < Q.length
          · exact ⟨j, f, by rw [getD_app f] at e; exact e⟩
          · rw [show j = Q.length by omega, getD_end] at e
            exact absurd e.symm d
    src := fun i hi hs => by
      obtain ⟨j, hj, e⟩ := h.src i hi hs
      exact ⟨j, by omega, by rw [getD_app hj]; exact e⟩
    came := fun j hj => by
      by_cases d : j < Q.length
      · rw [getD_app d, if_neg (hno j d)]
        rcases h.came j d with h1 | ⟨a, ha, e1, e2, e3, e4⟩
        · exact .inl h1
        · refine .inr ⟨a, ha, ?_, ?_, e3, fun b hb => ?_⟩
          · rw [getD_app (by omega)]; exact e1
          · rw [getD_app (by omega)]; exact e2
          · rw [getD_app (by omega)]; exact e4 b hb
      · rw [show j = Q.length by omega, getD_end, if_pos rfl]
        refine .inr ⟨q, by omega, by rw [getD_app hq], by rw [getD_app hq]; exact he, fun hs => ?_, fun b hb => ?_⟩
        · obtain ⟨j', hj', e⟩ := h.src k hk hs
          exact hno j' hj' e
        · rw [getD_app (by omega)]
          intro hb2
          obtain ⟨j', hj', e⟩ := (h.done b hb (by omega)).2 k hk hb2
          exact hno j' hj' e
    done := fun a ha haQ => by
      rw [getD_app (by omega)]
      have := h.done a ha (by omega)
      exact ⟨this.1, fun k' hk' he' => by
        obtain ⟨j, hj, e⟩ := this.2 k' hk' he'
        exact ⟨j, by omega, by rw [getD_app hj]; exact e⟩⟩ }
theorem Bq.next (h : Bq n s x y c Q q) (hq : q < Q.length) (hs : ¬ snkE s y (Q.getD q 0)) (hk : ∀ k, k < n → edE s x y (Q.getD q 0) k → ∃ j, j < Q.length ∧ Q.getD j 0 = k) : Bq n s x y c Q (q + 1) :=
  { lt := h.lt, inj := h.inj, seen := h.seen, src := h.src, came := h.came,
    done := fun a ha haQ => by
      by_cases d : a = q
      · rw [d]; exact ⟨hs, hk⟩
      · exact h.done a (by omega) haQ }
theorem Bq.len (h : Bq n s x y c Q q) (hn : n ≤ 8) : Q.length ≤ 8 := by
  have key : ∀ k, k ≤ Q.length → ∃ T, sz T = k ∧ ∀ i, T.testBit i = true ↔ ∃ j, j < k ∧ Q.getD j 0 = i := by
    intro k
    induction k with
    | zero => intro _; exact ⟨0, sz_zero, fun i => by simp⟩
    | succ k ih =>
      intro hk
      obtain ⟨T, h1, h2⟩ := ih (by omega)
      have hk8 : Q.getD k 0 < 8 := by have := h.lt k (by omega); omega
      have hT : T.testBit (Q.getD k 0) = false := by
        cases e : T.testBit (Q.getD k 0)
        · rfl
        · obtain ⟨j, hj, e2⟩ := (h2 _).1 e
          exact absurd e2 (h.inj j k hj (by omega))
      refine ⟨T ||| bit (Q.getD k 0), by rw [sz_add hk8 hT, h1], fun i => ?_⟩
      rw [Nat.testBit_or, Bool.or_eq_true, h2, testBit_bit, decide_eq_true_eq]
      constructor
      · rintro (⟨j, hj, e⟩ | e)
        · exact ⟨j, by omega, e⟩
        · exact ⟨k, by omega, e⟩
      · rintro ⟨j, hj, e⟩
        by_cases d : j = k
        · subst d; exact .inr e
        · exact .inl ⟨j, by omega, e⟩
  obtain ⟨T, h1, _⟩ := key Q.length (Nat.le_refl _)
  have := sz_le T
  omega
/-- the place of a number in the queue, counted from 1 -/
def posQ (Q : List Nat) (i : Nat) : Nat → Nat
  | 0 => 0
  | k + 1 => if Q.getD k 0 = i then k + 1 else posQ Q i k
theorem posQ_at {Q : List Nat} (hinj : ∀ i j, i < j → j < Q.length → Q.getD i 0 ≠ Q.getD j 0) {j : Nat} : ∀ k, j < k → k ≤ Q.length → posQ Q (Q.getD j 0) k = j + 1
  | 0, hj, _ => by omega
  | k + 1, hj, hk => by
    unfold posQ
    by_cases e : j = k
    · subst e; rw [if_pos rfl]
    · rw [if_neg (fun e2 => hinj j k (by omega) (by omega) e2.symm)]
      exact posQ_at hinj k (by omega) (by omega)
/-- THE END, found -/
theorem Bq.found (h : Bq n s x y c Q q) (hq : q < Q.length) (hsn : snkE s y (Q.getD q 0)) (hx : RkM n x) (hy : RkM n y) (hs : s < bit n) (hxi : x s = sz s) (hyi : y s = sz s) : ∃ l, Way c Q q l ∧ flipL s l < bit n ∧ x (flipL s l) = sz (flipL s l) ∧ y (flipL s l) = sz (flipL s l) ∧ sz (flipL s l) = sz s + 1 := by
  obtain ⟨l, hl⟩ := h.way q q (Nat.le_refl _) hq
  obtain ⟨p, hp⟩ := h.wayP hl hq
  have h0 : l.getD 0 0 = Q.getD q 0 := by
    have := (hp.at' 0 hp.ne).1
    rwa [hp.first] at this
  refine ⟨l, hl, hp.more hx hy hs hxi hyi h.lt h.inj (by rw [h0]; exact hsn) (fun k hk hkl => ?_)⟩
  rw [(hp.at' k hkl).1]
  have := hp.fall 0 k hk hkl
  rw [hp.first] at this
  exact (h.done (p k) this (by omega)).1
end

end Go.Proofs.Ytenbeiafdiifgaa

namespace Go.Proofs.Ytenbeiafdiifgaa
open Go.RowKit
set_option linter.unusedVariables false

def famTo (n : Int) (l : List Int) (k : Nat) : Prop := ∀ i, i < k → 0 ≤ l.getD i 0 ∧ l.getD i 0 ≤ all n ∧ (0 < i → l.getD (i-1) 0 < l.getD i 0)
instance (n l k) : Decidable (famTo n l k) := by unfold famTo; infer_instance
/-- a family: sets of n elements, rising -/
def isFam (n : Int) (l : List Int) : Prop := 0 ≤ n ∧ n ≤ 8 ∧ famTo n l l.length
instance (n l) : Decidable (isFam n l) := by unfold isFam; infer_instance
theorem famTo_step {n l k} (h : famTo n l k) (h0 : 0 ≤ l.getD k 0) (h1 : l.getD k 0 ≤ all n) (h2 : 0 < k → l.getD (k-1) 0 < l.getD k 0) : famTo n l (k+1) := by
  intro i hi
  by_cases e : i = k
  · subst e; exact ⟨h0, h1, h2⟩
  · exact h i (by omega)

set_option maxHeartbeats 1000000 in
theorem c_isFamily {B : Nat} {W : World} (u : Later B W) (n : Int) (l : List Int) (a : Option Addr) (cap : Nat) (h : IntsAt B W a l) (hlen : l.length ≤ 9223372036854775807) :
    Calls Try.prog 18 #[.int .i64 n, .slice a l.length cap] u.val (Ret B W (.bool (decide (isFam n l)))) := by
  have HI := Lib.hid h; clear h
  rcases ilt n 0 with ⟨h0, e0⟩ | ⟨h0, e0⟩
  · go_enter Try.func18, Try.ntmps18
    go_wp2
    go_ret
    exact Ret.mk u (vbool (dec_false (fun h => by have := h.1; omega)))
  rcases ilt 8 n with ⟨h8, e8⟩ | ⟨h8, e8⟩
  · go_enter Try.func18, Try.ntmps18
    go_wp2
    go_ret
    exact Ret.mk u (vbool (dec_false (fun h => by have := h.2.1; omega)))
  go_enter Try.func18, Try.ntmps18
  go_wp2
  go_loopw [5] (fun i wr => ∃ (k : Nat) (u : Later B W), k ≤ l.length ∧ i = .int .i64 k ∧ wr = u.val ∧ Hid (famTo n l k)) (fun i _ => l.length - (intOf i).toNat)
  case atStart => exact ⟨0, u, by omega, rfl, rfl, by intro i hi; omega⟩
  case round =>
    obtain ⟨k, u, hk, rfl, rfl, hf⟩ := hrel
    by_cases hlt : k < l.length
    · obtain ⟨b, off, rfl, hb, hc⟩ := HI.out.at hlt
      have c0 : ∀ u : Later B W, u.val.cell? ⟨b, off + k, none⟩ = some (.int .i64 (l.getD k 0)) := fun u => hc u k hlt
      have c1 : 0 < k → ∀ u : Later B W, u.val.cell? ⟨b, off + (k - 1), none⟩ = some (.int .i64 (l.getD (k-1) 0)) := fun _ u => hc u (k-1) (by omega)
      have hst := @famTo_step n l k hf.out
      have hno : famTo n l l.length → _ := fun h => h k hlt
      generalize l.getD k 0 = x at *
      generalize l.getD (k-1) 0 = y at *
      have H1 := Lib.hid hst; have H2 := Lib.hid hno
      clear hc hst hno hf
      have HA := Lib.hid (fun u : Later B W => c_all u n h0 h8)
      rcases ilt x 0 with ⟨g1, d1⟩ | ⟨g1, d1⟩ <;> rcases ilt (all n) x with ⟨g2, d2⟩ | ⟨g2, d2⟩ <;> rcases nlt 0 k with ⟨g3, d3⟩ | ⟨g3, d3⟩ <;> rcases ile x y with ⟨g4, d4⟩ | ⟨g4, d4⟩
      all_goals
        go_wp2
        refine wp_region_later u (by kernel_rfl) (by kernel_rfl) (fun _ => ?_)
        repeat (first | go_big_quiet_step (((go_at_call 7; exact HA.out _))) | (refine wpQuiet_step (fun K hK => ?_); go_simp; refine ⟨_, fun _ => rfl, ?_⟩; refine hK _ ?_; clear hK K))
        refine wpQuiet_nil ?_
        intro u
        go_wp2
        first
        | (go_ret
           exact Ret.mk u (vbool (dec_false (fun h => by have := H2.out h.2.2; omega))))
        | (go_roundw
           case rel => exact ⟨k+1, u, by omega, by go_num, rfl, H1.out (by omega) (by omega) (by omega)⟩
           case measure => simp [intOf]; omega)
    · go_wp2
      go_ret
      have hf' := hf.out
      rw [show k = l.length by omega] at hf'
      exact Ret.mk u (vbool (dec_true ⟨by omega, by omega, hf'⟩))

set_option maxHeartbeats 1000000 in
theorem c_family {B : Nat} {W : World} (u : Later B W) (n : Int) (l : List Int) (a : Option Addr) (cap : Nat) (h : IntsAt B W a l) (hlen : l.length ≤ 9223372036854775807) :
    Calls Try.prog 40 #[.int .i64 n, .slice a l.length cap] u.val (Ret B W (.int .i64 (errno (decide (isFam n l)) 1))) := by
  have HI := Lib.hid h; clear h
  rcases ilt n 0 with ⟨h0, e0⟩ | ⟨h0, e0⟩
  · go_enter Try.func40, Try.ntmps40
    go_wp2
    go_ret
    exact Ret.mk u (vint (errno_bad (fun h => by have := h.1; omega)))
  rcases ilt 8 n with ⟨h8, e8⟩ | ⟨h8, e8⟩
  · go_enter Try.func40, Try.ntmps40
    go_wp2
    go_ret
    exact Ret.mk u (vint (errno_bad (fun h => by have := h.2.1; omega)))
  obtain ⟨m, rfl⟩ := Int.eq_ofNat_of_zero_le h0
  have hb := bit_le m (by omega)
  have hc := bit_cast m
  have hall : all (m : Int) = (bit m : Int) - 1 := by rw [all_nat]; omega
  have HA := Lib.hid hall; clear hall
  go_enter Try.func40, Try.ntmps40
  go_wp2
  go_loopw [15] (fun i wr => ∃ (k : Nat) (u : Later B W), k ≤ l.length ∧ i = .int .i64 k ∧ wr = u.val ∧ Hid (famTo m l k)) (fun i _ => l.length - (intOf i).toNat)
  case atStart => exact ⟨0, u, by omega, rfl, rfl, by intro i hi; omega⟩
  case round =>
    obtain ⟨k, u, hk, rfl, rfl, hf⟩ := hrel
    by_cases hlt : k < l.length
    · obtain ⟨b, off, rfl, hb, hc⟩ := HI.out.at hlt
      have c0 : u.val.cell? ⟨b, off + k, none⟩ = some (.int .i64 (l.getD k 0)) := hc u k hlt
      have c1 : 0 < k → u.val.cell? ⟨b, off + (k - 1), none⟩ = some (.int .i64 (l.getD (k-1) 0)) := fun _ => hc u (k-1) (by omega)
      have hst := @famTo_step m l k hf.out
      have hno : famTo m l l.length → _ := fun h => h k hlt
      rw [HA.out] at hst hno
      generalize l.getD k 0 = x at *
      generalize l.getD (k-1) 0 = y at *
      have H1 := Lib.hid hst; have H2 := Lib.hid hno
      clear hc hst hno hf
      rcases ilt x 0 with ⟨g1, d1⟩ | ⟨g1, d1⟩ <;> rcases ile (bit m) x with ⟨g2, d2⟩ | ⟨g2, d2⟩ <;> rcases nlt 0 k with ⟨g3, d3⟩ | ⟨g3, d3⟩ <;> rcases ile x y with ⟨g4, d4⟩ | ⟨g4, d4⟩
      all_goals
        go_wp2
        first
        | (go_ret
           exact Ret.mk u (vint (errno_bad (fun h => by have := H2.out h.2.2; omega))))
        | (go_roundw
           case rel => exact ⟨k+1, u, by omega, by go_num, rfl, H1.out (by omega) (by omega) (by omega)⟩
           case measure => simp [intOf]; omega)
    · go_wp2
      go_ret
      have hf' := hf.out
      rw [show k = l.length by omega] at hf'
      exact Ret.mk u (vint (errno_ok ⟨by omega, by omega, hf'⟩))

/-- the place of a number in a list; -1: it is not there -/
def idx (l : List Int) (v : Int) : Int := if v ∈ l then (l.idxOf v : Int) else -1
theorem idx_not {l : List Int} {v : Int} (h : ∀ i, i < l.length → l.getD i 0 ≠ v) : idx l v = -1 := by
  unfold idx
  rw [if_neg]
  intro hm
  obtain ⟨i, hi, rfl⟩ := List.getElem_of_mem hm
  exact h i hi (by simp [hi])
theorem idx_at {l : List Int} {v : Int} {k : Nat} (hk : k < l.length) (he : l.getD k 0 = v) (h : ∀ i, i < k → l.getD i 0 ≠ v) : idx l v = k := by
  have hm : v ∈ l := by rw [← he]; simp [hk]
  have hlt : l.idxOf v < l.length := List.idxOf_lt_length_of_mem hm
  have hg : l[l.idxOf v] = v := List.getElem_idxOf hlt
  have hkk : l[k] = v := by simpa [hk] using he
  unfold idx
  rw [if_pos hm]
  have h1 : ¬ l.idxOf v < k := fun hh => h _ hh (by simp [hlt, hg])
  have h2 : ¬ k < l.idxOf v := fun hh => by
    have := List.not_of_lt_findIdx (p := (· == v)) (xs := l) hh
    simp [hkk] at this
  omega
theorem idx_nonneg {l : List Int} {v : Int} : 0 ≤ idx l v ↔ v ∈ l := by
  unfold idx; split <;> simp_all

set_option maxHeartbeats 1000000 in
theorem c_index {B : Nat} {W : World} (u : Later B W) (l : List Int) (v : Int) (a : Option Addr) (cap : Nat) (h : IntsAt B W a l) (hlen : l.length ≤ 9223372036854775807) :
    Calls Try.prog 46 #[.slice a l.length cap, .int .i64 v] u.val (Ret B W (.int .i64 (idx l v))) := by
  have HI := Lib.hid h; clear h
  go_enter Try.func46, Try.ntmps46
  go_wp2
  go_loopw [8] (fun i wr => ∃ (k : Nat) (u : Later B W), k ≤ l.length ∧ i = .int .i64 k ∧ wr = u.val ∧ Hid (∀ j, j < k → l.getD j 0 ≠ v)) (fun i _ => l.length - (intOf i).toNat)
  case atStart => exact ⟨0, u, by omega, rfl, rfl, by intro i hi; omega⟩
  case round =>
    obtain ⟨k, u, hk, rfl, rfl, hf⟩ := hrel
    by_cases hlt : k < l.length
    · obtain ⟨b, off, rfl, hb, hc⟩ := HI.out.at hlt
      have c0 : u.val.cell? ⟨b, off + k, none⟩ = some (.int .i64 (l.getD k 0)) := hc u k hlt
      have H1 := Lib.hid (fun he => idx_at hlt he hf.out)
      have H2 : Hid (l.getD k 0 ≠ v → ∀ j, j < k + 1 → l.getD j 0 ≠ v) := fun hne j hj => by
        by_cases e : j = k
        · rw [e]; exact hne
        · exact hf.out j (by omega)
      generalize l.getD k 0 = x at *
      clear hc hf
      rcases ieq v x with ⟨g1, d1, _⟩ | ⟨g1, d1, _⟩
      · subst g1
        go_wp2
        go_ret
        exact Ret.mk u (vint (H1.out (by trivial)).symm)
      · go_wp2
        go_roundw
        case rel => exact ⟨k+1, u, by omega, by go_num, rfl, H2.out (Ne.symm g1)⟩
        case measure => simp [intOf]; omega
    · go_wp2
      go_ret
      have hf' := hf.out
      rw [show k = l.length by omega] at hf'
      exact Ret.mk u (vint (idx_not hf').symm)

set_option maxHeartbeats 400000 in
theorem c_contains {B : Nat} {W : World} (u : Later B W) (l : List Int) (v : Int) (a : Option Addr) (cap : Nat) (h : IntsAt B W a l) (hlen : l.length ≤ 9223372036854775807) :
    Calls Try.prog 39 #[.slice a l.length cap, .int .i64 v] u.val (Ret B W (.bool (decide (v ∈ l)))) := by
  have H := Lib.hid (c_index u l v a cap h hlen); clear h
  go_enter Try.func39, Try.ntmps39
  go_wp2_with (go_at_call 46; refine H.out.mono ?_; rintro e _ ⟨rfl, v, rfl⟩)
  go_ret
  exact Ret.mk _ (vbool (by simp only [idx_nonneg]))

set_option maxHeartbeats 400000 in
theorem c_has {B : Nat} {W : World} (u : Later B W) (l : List Int) (v : Int) (a : Option Addr) (cap : Nat) (h : IntsAt B W a l) (hlen : l.length ≤ 9223372036854775807) :
    Calls Try.prog 32 #[.slice a l.length cap, .int .i64 v] u.val (Ret B W (.bool (decide (v ∈ l)))) := by
  have H := Lib.hid (c_contains u l v a cap h hlen); clear h
  go_enter Try.func32, Try.ntmps32
  go_wp2_with (go_at_call 39; refine H.out.mono ?_; rintro e _ ⟨rfl, v, rfl⟩)
  go_ret
  exact Ret.mk _ rfl

end Go.Proofs.Ytenbeiafdiifgaa
