
/-
  convex.right, convex.Hull, convex.Extreme, rotaref.Ends.
  sets.Choose, sets.Below, sets.Shadow.
  kinds.without.
-/
import Derived.Test.YtdieaijgoidocaaPk31
import Derived.Test.YtdieaijgoidocaaPk30
import Derived.Test.YtdieaijgoidocaaPk21
import Derived.Test.YtdieaijgoidocaaPk27
import Derived.IntWalk
import Derived.Test.YtdieaijgoidocaaPk24
import Derived.Test.YtdieaijgoidocaaPk28
import Derived.Test.YtdieaijgoidocaaPk29
namespace Go.Proofs.Ytdieaijgoidocaa
open Go.RowKit
set_option linter.unusedVariables false

/-- what is wrong with a family and a set -/
def RightIs (n : Int) (l : List Int) (s e : Int) : Prop := ∃ c, ChkIs n l c ∧ e = if c = 0 then errno (decide (isSet n s)) 1 else c
theorem RightIs.ok {n : Int} {l : List Int} {s : Int} (h : RightIs n l s 0) : isFam n l ∧ Good n l ∧ isSet n s := by
  obtain ⟨c, hc, e⟩ := h
  split at e
  · rename_i h0
    subst h0
    have hf : isFam n l := by
      by_cases hf : isFam n l
      · exact hf
      · have := hc.1 hf; omega
    have hg : Good n l := by
      by_cases hg : Good n l
      · exact hg
      · have := hc.2.1 hf hg; omega
    refine ⟨hf, hg, ?_⟩
    by_cases hs : isSet n s
    · exact hs
    · simp [errno, hs] at e
  · rename_i h0; exact absurd e.symm h0

/-- a set of n elements, as a number -/
theorem isSet_nat {n s : Int} (h : isSet n s) : ∃ m t : Nat, n = m ∧ s = t ∧ m ≤ 8 ∧ t < bit m ∧ t < 256 := by
  obtain ⟨h0, h8, h1, h2⟩ := h
  have hb := bit_le n.toNat (by omega)
  refine ⟨n.toNat, s.toNat, by omega, by omega, by omega, ?_, ?_⟩
  · unfold all at h2; unfold bit; unfold bit at hb; omega
  · unfold all at h2; unfold bit at hb; omega

/-- the extreme elements of a set -/
def ExtIs (m : Nat) (l : List Int) (s X : Nat) : Prop := X < 256 ∧ ∀ i, i < 8 → (X.testBit i = true ↔ (s.testBit i = true ∧ (hullOf m l (s - bit i)).testBit i = false))
theorem ExtIs.ex (m : Nat) (l : List Int) (s : Nat) : ∃ X, ExtIs m l s X := exists_set _
theorem ExtIs.uniq {m : Nat} {l : List Int} {s X Y : Nat} (h : ExtIs m l s X) (k : ExtIs m l s Y) : X = Y := by
  refine eq_of_bits h.1 k.1 (fun i hi => ?_)
  rw [Bool.eq_iff_iff, h.2 i hi, k.2 i hi]
/-- .. of those that t no longer has -/
def extTo (m : Nat) (l : List Int) (s t x : Nat) : Prop := x < 256 ∧ ∀ i, i < 8 → (x.testBit i = true ↔ (s.testBit i = true ∧ t.testBit i = false ∧ (hullOf m l (s - bit i)).testBit i = false))
theorem extTo_start (m : Nat) (l : List Int) (s : Nat) : extTo m l s s 0 := ⟨by decide, fun i _ => by
  rw [Nat.zero_testBit]
  constructor
  · intro h; cases h
  · rintro ⟨h1, h2, _⟩; rw [h1] at h2; cases h2⟩
theorem extTo_end {m : Nat} {l : List Int} {s x : Nat} (h : extTo m l s 0 x) : ExtIs m l s x := ⟨h.1, fun i hi => by rw [h.2 i hi]; simp⟩
theorem extTo_hit {m : Nat} {l : List Int} {s t x : Nat} (hs : s < 256) (ht : t < 256) (h0 : t ≠ 0) (hsub : subBits t s) (h : extTo m l s t x) (hh : hullOf m l (nand s (low t)) &&& low t = 0) : extTo m l s (drop1 t) (x ||| low t) := by
  obtain ⟨e, he, h1, h2, h3, _⟩ := low_facts t ht h0
  have hse := hsub e he h2
  rw [and_low_zero h1, h1, nand_bit s e hs he hse] at hh
  refine ⟨or_lt _ _ h.1 (low_lt t ht), fun i hi => ?_⟩
  rw [Nat.testBit_or, testBit_low h1, h3 i hi]
  by_cases c : e = i
  · subst c; simp [hse, hh]
  · have c' : i ≠ e := fun h => c h.symm
    simp only [c, c', decide_false, Bool.or_false, decide_true, Bool.and_true, ne_eq, not_false_eq_true]
    exact h.2 i hi
theorem extTo_miss {m : Nat} {l : List Int} {s t x : Nat} (hs : s < 256) (ht : t < 256) (h0 : t ≠ 0) (hsub : subBits t s) (h : extTo m l s t x) (hh : ¬ hullOf m l (nand s (low t)) &&& low t = 0) : extTo m l s (drop1 t) x := by
  obtain ⟨e, he, h1, h2, h3, _⟩ := low_facts t ht h0
  have hse := hsub e he h2
  rw [and_low_zero h1, h1, nand_bit s e hs he hse] at hh
  refine ⟨h.1, fun i hi => ?_⟩
  rw [h3 i hi]
  by_cases c : i = e
  · subst c
    have := h.2 i hi
    rw [this]; simp [h2, hh]
  · simp only [c, decide_true, Bool.and_true, ne_eq, not_false_eq_true]
    exact h.2 i hi

/-- .. of those below k -/
def extK (m : Nat) (l : List Int) (s k x : Nat) : Prop := x < 256 ∧ ∀ i, i < 8 → (x.testBit i = true ↔ (i < k ∧ s.testBit i = true ∧ (hullOf m l (s - bit i)).testBit i = false))
theorem extK_hit {m : Nat} {l : List Int} {s k x : Nat} (hk : k < 8) (h : extK m l s k x) (h1 : s.testBit k = true) (h2 : (hullOf m l (s - bit k)).testBit k = false) : extK m l s (k + 1) (x ||| bit k) :=
  ⟨or_lt _ _ h.1 (bit_lt256 k hk), fun i hi => by
    rw [Nat.testBit_or, testBit_bit]
    by_cases c : k = i
    · subst c; simp [h1, h2]
    · simp only [c, decide_false, Bool.or_false]
      rw [h.2 i hi]
      constructor
      · rintro ⟨a, b⟩; exact ⟨by omega, b⟩
      · rintro ⟨a, b⟩; exact ⟨by omega, b⟩⟩
theorem extK_miss {m : Nat} {l : List Int} {s k x : Nat} (h : extK m l s k x) (h1 : ¬ (s.testBit k = true ∧ (hullOf m l (s - bit k)).testBit k = false)) : extK m l s (k + 1) x :=
  ⟨h.1, fun i hi => by
    rw [h.2 i hi]
    constructor
    · rintro ⟨a, b⟩; exact ⟨by omega, b⟩
    · rintro ⟨a, b⟩
      by_cases c : i = k
      · subst c; exact absurd b h1
      · exact ⟨by omega, b⟩⟩
theorem extK_end {m : Nat} {l : List Int} {s x : Nat} (hm : m ≤ 8) (hs : s < bit m) (h : extK m l s m x) : ExtIs m l s x := by
  have hb := bit_le m hm
  have hlt := (lt_pow_iff m s hm (by omega)).1 hs
  refine ⟨h.1, fun i hi => ?_⟩
  rw [h.2 i hi]
  constructor
  · rintro ⟨_, b⟩; exact b
  · rintro b; exact ⟨hlt i hi b.1, b⟩

end Go.Proofs.Ytdieaijgoidocaa

namespace Go.Proofs.Ytdieaijgoidocaa
open Go.RowKit
set_option linter.unusedVariables false

def isChoice (n k : Int) : Prop := 0 ≤ n ∧ n ≤ 8 ∧ 0 ≤ k ∧ k ≤ n
instance (n k : Int) : Decidable (isChoice n k) := by unfold isChoice; infer_instance

set_option maxRecDepth 100000 in
set_option maxHeartbeats 4000000 in
theorem c_choose {B : Nat} {W : World} (u : Later B W) (m k : Nat) (hm : m ≤ 8) (hk : k ≤ m) :
    Calls Try.prog 41 #[.int .i64 m, .int .i64 k] u.val (RetP B W (ListO B (ints (those m (fun s => decide (sz s = k)))) 0)) := by
  have hb := bit_le m hm
  have hbc := bit_cast m
  have e1 : decide ((m : Int) < 0) = false := decide_eq_false (by omega)
  have e2 : decide (8 < (m : Int)) = false := decide_eq_false (by omega)
  have e3 : decide ((k : Int) < 0) = false := decide_eq_false (by omega)
  have e4 : decide ((m : Int) < (k : Int)) = false := decide_eq_false (by omega)
  have e5 : decide (m < k) = false := decide_eq_false (by omega)
  go_enter Try.func41, Try.ntmps41
  go_wp2
  go_loopw [6, 25] (fun o i wr => ∃ (s : Nat) (ad : Option Addr) (cp : Nat) (v : Later B W), s ≤ bit m ∧ i = .int .i64 s ∧ o = .slice ad (ints (thoseTo (fun s => decide (sz s = k)) s)).length cp ∧ wr = v.val ∧ Hid (Own B v.val ad cp (ints (thoseTo (fun s => decide (sz s = k)) s)))) (fun _ i _ => bit m - (intOf i).toNat)
  case atStart => exact ⟨0, none, 0, u, by omega, rfl, rfl, rfl, Lib.hid (Own.nil _ _)⟩
  case round =>
    clear u
    obtain ⟨s, ad, cp, v, hs, rfl, rfl, rfl, HO⟩ := hrel
    have HE := Lib.hid (thoseTo_step (fun s => decide (sz s = k)) s)
    have HL : Hid ((ints (thoseTo (fun s => decide (sz s = k)) s)).length ≤ 256) := Lib.hid (by rw [ints_len]; have := thoseTo_len (fun s => decide (sz s = k)) s; omega)
    rcases nlt s (bit m) with ⟨hlt, d0⟩ | ⟨hlt, d0⟩
    · have d0' : decide ((s : Int) < (bit m : Int)) = true := decide_eq_true (by omega)
      have KZ : Hid (Calls Try.prog 40 #[.int .u64 s] v.val (Ret v.val.heap.size v.val (.int .i64 (sz s)))) := Lib.hid (c_ones (Later.self v.val) s (by omega))
      generalize thoseTo (fun s => decide (sz s = k)) s = Lt at *
      rcases ieq (sz s : Int) k with ⟨g1, d1, d2⟩ | ⟨g1, d1, d2⟩
      · have G1 : Hid (decide (sz s = k) = true) := Lib.hid (decide_eq_true (by omega))
        clear g1
        generalize sz s = z at *
        go_wp2_with (first | (go_at_call 40; (with_reducible refine (KZ.out).mono ?_); rintro e _ ⟨rfl, v2, rfl⟩) | (at_builtin; refine wpList_push (B := B) (W := W) (w := v2.val) (v.up v2).below (v.up v2).size rfl _ _ rfl (ints Lt) ad cp (s : Int) rfl (HO.out.keep v2.below) rfl (by have := HL.out; omega) ?_; intro u2 ad2 cp2 hown))
        go_roundw
        case rel =>
          refine ⟨s+1, ad2, cp2, u2, by omega, by go_num, ?_, rfl, ?_⟩
          · rw [HE.out]; simp only [G1.out, if_true]; rw [ints_snoc]; simp
          · rw [HE.out]; simp only [G1.out, if_true]; rw [ints_snoc]; exact hown
        case measure => simp [intOf]; omega
      · have G1 : Hid (decide (sz s = k) = false) := Lib.hid (decide_eq_false (by omega))
        clear g1
        generalize sz s = z at *
        go_wp2_with (first | (go_at_call 40; (with_reducible refine (KZ.out).mono ?_); rintro e _ ⟨rfl, v2, rfl⟩))
        go_roundw
        case rel =>
          refine ⟨s+1, ad, cp, v.up v2, by omega, by go_num, ?_, rfl, ?_⟩
          · rw [HE.out]; simp only [G1.out, Bool.false_eq_true, if_false]
          · rw [HE.out]; simp only [G1.out, Bool.false_eq_true, if_false]; exact HO.out.keep v2.below
        case measure => simp [intOf]; omega
    · have hse : s = bit m := by omega
      have d0' : decide ((s : Int) < (bit m : Int)) = false := decide_eq_false (by omega)
      have HO2 : Hid (Own B v.val ad cp (ints (those m (fun s => decide (sz s = k))))) := Lib.hid (by rw [hse] at HO; exact HO.out)
      have hl : (ints (thoseTo (fun s => decide (sz s = k)) s)).length = (ints (those m (fun s => decide (sz s = k)))).length := by rw [hse]; rfl
      rw [hl]
      clear HO HE HL hl
      go_wp2
      go_ret2
      exact RetP.mk v ⟨ad, cp, rfl, HO2.out⟩
set_option maxRecDepth 100000 in
set_option maxHeartbeats 4000000 in
theorem c_choose_no {B : Nat} {W : World} (u : Later B W) (n k : Int) (hc : ¬ isChoice n k) :
    Calls Try.prog 41 #[.int .i64 n, .int .i64 k] u.val (RetP B W (ListE [] 1)) := by
  unfold isChoice at hc
  rcases ilt n 0 with ⟨g1, d1⟩ | ⟨g1, d1⟩
  · clear hc
    go_enter Try.func41, Try.ntmps41
    go_wp2
    go_ret2
    exact RetP.mk u ListE.no
  · rcases ilt 8 n with ⟨g2, d2⟩ | ⟨g2, d2⟩
    · clear hc
      go_enter Try.func41, Try.ntmps41
      go_wp2
      go_ret2
      exact RetP.mk u ListE.no
    · rcases ilt k 0 with ⟨g3, d3⟩ | ⟨g3, d3⟩
      · clear hc
        go_enter Try.func41, Try.ntmps41
        go_wp2
        go_ret2
        exact RetP.mk u ListE.no
      · have g4 : n < k := by omega
        have d4 : decide (n < k) = true := decide_eq_true g4
        clear hc
        go_enter Try.func41, Try.ntmps41
        go_wp2
        go_ret2
        exact RetP.mk u ListE.no

/-! ### Below -/
theorem shr_and2 (x k : Nat) (hx : x < 256) : bits .and .i64 ((x : Int) / 2 ^ k) 1 = (((x.testBit k).toNat : Nat) : Int) := by
  have e1 : ((x : Int) / 2 ^ k) = ((x / 2 ^ k : Nat) : Int) := by simp
  have h1 : x / 2 ^ k ≤ x := Nat.div_le_self _ _
  rw [e1]
  have := i64_and (x / 2 ^ k) 1 (by omega) (by omega)
  rw [show ((1 : Nat) : Int) = 1 from rfl] at this
  rw [this, Nat.and_one_is_mod, Nat.toNat_testBit]
theorem is8 {s : Int} (h : isSet 8 s) : ∃ t : Nat, s = t ∧ t < 256 := by
  obtain ⟨_, _, h1, h2⟩ := h
  have := all_le 8 (by omega)
  exact ⟨s.toNat, by omega, by omega⟩
theorem is8_nat {s : Nat} (h : s < 256) : isSet 8 (s : Int) := by
  have : all 8 = 255 := rfl
  exact ⟨by omega, by omega, by omega, by omega⟩
def ovr (a b k : Nat) : Int := ((elemsTo a k).length : Int) - ((elemsTo b k).length : Int)
theorem ovr_step (a b k : Nat) : ovr a b (k + 1) = ovr a b k + ((((a.testBit k).toNat : Nat) : Int) - (((b.testBit k).toNat : Nat) : Int)) := by
  unfold ovr
  rw [elemsTo_step, elemsTo_step]
  cases a.testBit k <;> cases b.testBit k <;> simp <;> omega
theorem ovr_le (a b k : Nat) : -(k : Int) ≤ ovr a b k ∧ ovr a b k ≤ k := by
  unfold ovr
  have := elemsTo_len a k
  have := elemsTo_len b k
  omega
theorem belB_iff {a b : Nat} : belB a b = true ↔ ∀ i, i < 8 → 0 ≤ ovr a b (i + 1) := by
  unfold belB ovr
  rw [List.all_eq_true]
  constructor
  · intro h i hi
    have := of_decide_eq_true (h i (by simpa using hi))
    omega
  · intro h i hi
    have := h i (by simpa using hi)
    exact decide_eq_true (by omega)
end Go.Proofs.Ytdieaijgoidocaa

namespace Go.Proofs.Ytdieaijgoidocaa
open Go.RowKit
set_option linter.unusedVariables false

set_option maxRecDepth 100000 in
theorem c_withoutTell {B : Nat} {W : World} (u : Later B W) (x : Int) (xs : List Int) (a : Option Addr) (cap gb : Nat) (h : IntsAt B W a xs) (hlen : xs.length ≤ 1048576) (hg : gb < B) (hc : W.cell? ⟨gb, 0, none⟩ = some (.slice a xs.length cap)) :
    Calls Try.prog 43 #[.int .i64 x, .pointer (some ⟨gb, 0, none⟩)] u.val (Ret B W (.bool (decide (x ∈ xs)))) := by
  have q0 : u.val.cell? ⟨gb, 0, none⟩ = some (.slice a xs.length cap) := by rw [u.cell (a := ⟨gb, 0, none⟩) hg, hc]
  have KC := Lib.hid (c_contains u xs x a cap h (by omega))
  clear h hc
  generalize decide (x ∈ xs) = r at *
  go_enter Try.func43, Try.ntmps43
  go_wp2_with (first | (go_at_call 44; (with_reducible refine (KC.out).mono ?_); rintro e _ ⟨rfl, v, rfl⟩) | fail)
  go_ret
  exact Ret.mk v rfl

/-- all sets of k but these -/
def sans (k m : Nat) (G : List Int) : List Int := (ints (those m (fun s => decide (sz s = k)))).filter (fun x => !decide (x ∈ G))

set_option maxRecDepth 100000 in
set_option maxHeartbeats 8000000 in
theorem c_without {B : Nat} {W : World} (u : Later B W) (k m : Nat) (hm : m ≤ 8) (hk : k ≤ m) (G : List Int) (a : Option Addr) (cap : Nat) (h : IntsAt B W a G) (hlen : G.length ≤ 1048576) :
    Calls Try.prog 31 #[.int .i64 k, .int .i64 m, .slice a G.length cap] u.val (RetP B W (MatO B m (sans k m G))) := by
  have hB := u.size
  have hb := bit_le m hm
  obtain ⟨A, hA⟩ : ∃ A, A = sans k m G := ⟨_, rfl⟩
  rw [← hA]
  have k1 : (u.val.alloc (.cells #[.slice a G.length cap] 22)).heap.size = u.val.heap.size + 1 := by simp
  have X1 : RowAt1 ((u.val.alloc (.cells #[.slice a G.length cap] 22)).alloc (.cells #[.int .i64 0, .slice none 0 0] 26)) u.val.heap.size 22 (.slice a G.length cap) := (show RowAt1 (u.val.alloc (.cells #[.slice a G.length cap] 22)) u.val.heap.size 22 (.slice a G.length cap) from heap_alloc_new _ _).keep ((Below.refl _ _).alloc (Nat.le_refl _) _)
  have X2 : RowL ((u.val.alloc (.cells #[.slice a G.length cap] 22)).alloc (.cells #[.int .i64 0, .slice none 0 0] 26)) (u.val.heap.size + 1) 26 [.int .i64 0, .slice none 0 0] := by
    have h := RowL.new (u.val.alloc (.cells #[.slice a G.length cap] 22)) 26 [.int .i64 0, .slice none 0 0]
    rwa [k1] at h
  have hYs : ((u.val.alloc (.cells #[.slice a G.length cap] 22)).alloc (.cells #[.int .i64 0, .slice none 0 0] 26)).heap.size = u.val.heap.size + 2 := by simp
  have HVY : Hid (∀ v : Later ((u.val.alloc (.cells #[.slice a G.length cap] 22)).alloc (.cells #[.int .i64 0, .slice none 0 0] 26)).heap.size ((u.val.alloc (.cells #[.slice a G.length cap] 22)).alloc (.cells #[.int .i64 0, .slice none 0 0] 26)), ∃ w : Later B W, w.val = v.val) := Lib.hid (fun v => ⟨((u.alloc _).alloc _).up v, rfl⟩)
  have HI : Hid (IntsAt ((u.val.alloc (.cells #[.slice a G.length cap] 22)).alloc (.cells #[.int .i64 0, .slice none 0 0] 26)).heap.size ((u.val.alloc (.cells #[.slice a G.length cap] 22)).alloc (.cells #[.int .i64 0, .slice none 0 0] 26)) a G) := Lib.hid (h.to ((u.alloc _).alloc _))
  have HX := Lib.hid X2
  have HX1 := Lib.hid X1
  have HYs := Lib.hid hYs
  have HTl : Hid ((ints (those m (fun s => decide (sz s = k)))).length ≤ 256) := Lib.hid (by
    rw [ints_len]
    have h1 := thoseTo_len (fun s => decide (sz s = k)) (bit m)
    have e : those m (fun s => decide (sz s = k)) = thoseTo (fun s => decide (sz s = k)) (bit m) := rfl
    rw [e]; omega)
  have HAe : Hid (A = (ints (those m (fun s => decide (sz s = k)))).filter (fun x => !decide (x ∈ G))) := Lib.hid hA
  have HAl : Hid (A.length ≤ 256) := Lib.hid (by rw [HAe.out]; exact Nat.le_trans (List.length_filter_le _ _) HTl.out)
  have KCh := Lib.hid (fun (B : Nat) (W : World) (x : Later B W) => c_choose x m k hm hk)
  clear h k1 X1 X2 hYs hA
  generalize ints (those m (fun s => decide (sz s = k))) = T at *
  go_enter Try.func31, Try.ntmps31
  go_upto_region 1 with fail
  generalize ((u.val.alloc (.cells #[.slice a G.length cap] 22)).alloc (.cells #[.int .i64 0, .slice none 0 0] 26)) = Y at *
  generalize u.val.heap.size = gu at *
  have hgY : gu + 1 < Y.heap.size := by have := HYs.out; omega
  have hgY0 : gu < Y.heap.size := by omega
  have q1 : ∀ v : Later Y.heap.size Y, v.val.cell? ⟨gu, 0, none⟩ = some (.slice a G.length cap) := fun v => (HX1.out.keep v.below).c0
  have f0 : ∀ (w : Later Y.heap.size Y), w.val.cell? ⟨gu + 1, 0, none⟩ = some (.int .i64 0) := fun w => (HX.out.keep_at w.below hgY).cell rfl
  have z0 : ∀ (w : Later Y.heap.size Y), w.val.frozen? ⟨gu + 1, 0, none⟩ = false := fun w => (HX.out.keep_at w.below hgY).fz 0
  have f1 : ∀ (w : Later Y.heap.size Y) (x0 : Value), (w.val.setCell ⟨gu + 1, 0, none⟩ x0).cell? ⟨gu + 1, 1, none⟩ = some (.slice none 0 0) := fun w x0 => ((HX.out.keep_at w.below hgY).set 0 x0).cell rfl
  have z1 : ∀ (w : Later Y.heap.size Y) (x0 : Value), (w.val.setCell ⟨gu + 1, 0, none⟩ x0).frozen? ⟨gu + 1, 1, none⟩ = false := fun w x0 => ((HX.out.keep_at w.below hgY).set 0 x0).fz 1
  obtain ⟨z, hzz⟩ : ∃ z : Later Y.heap.size Y, z.val = Y := ⟨Later.self _, rfl⟩
  rw [← hzz]
  clear hzz
  have KZ := Lib.hid (KCh.out _ _ z)
  go_upto_region 2 with (first | (go_at_call 41; (with_reducible refine (KZ.out).mono ?_); rintro e _ ⟨_, rfl, ⟨ad, cp, rfl, hO⟩, v1, rfl⟩))
  have KD : Hid (Calls Try.prog 42 #[.slice ad T.length cp, .func (.func 43) #[] #[.pointer (some ⟨gu, 0, none⟩)]] v1.val (fun e w' => e = .returned (.slice ad A.length cp) ∧ ∃ v : Later Y.heap.size Y, w' = v.val ∧ Own Y.heap.size v.val ad cp A)) := Lib.hid (by
    rw [HAe.out]
    exact c_deleteFunc v1 T ad cp hO (by have := HTl.out; omega) 43 #[.pointer (some ⟨gu, 0, none⟩)] (fun y : Int => decide (y ∈ G)) (fun args w => by kernel_rfl) (fun B' W' x v hxv i hi => by
      have hxs := x.size
      have hc : v.val.cell? ⟨gu, 0, none⟩ = some (.slice a G.length cap) := by rw [← hxv]; exact q1 x
      have hI : IntsAt v.val.heap.size v.val a G := by rw [← hxv]; exact HI.out.to x
      refine (c_withoutTell (Later.self v.val) (T.getD i 0) G a cap gu hI hlen (by rw [← hxv]; omega) hc).mono ?_
      rintro e _ ⟨rfl, w2, rfl⟩
      exact Ret.mk (v.up w2) rfl))
  have KB : Hid (∀ (x : Later Y.heap.size Y), Own Y.heap.size x.val ad cp A → Calls Try.prog 45 #[.slice ad A.length cp] x.val (RetOwn x.val.heap.size x.val A)) := Lib.hid (fun x hh => c_clone (Later.self x.val) _ ad cp hh.reads (by have := HAl.out; omega))
  clear KCh KZ hO HX1
  go_upto_region 3 with (first | (go_at_call 42; (with_reducible refine (KD.out).mono ?_); rintro e _ ⟨rfl, v2, rfl, hO2⟩))
  have KB2 := Lib.hid (KB.out v2 hO2)
  have hv2 := v2.size
  clear KB KD hO2
  go_wp2_with (first | (go_at_call 45; (with_reducible refine (KB2.out).mono ?_); rintro e _ ⟨_, rfl, ⟨ad2, cp2, rfl, hO3⟩, w2, rfl⟩; obtain ⟨v3, hv3⟩ : ∃ v3 : Later Y.heap.size Y, v3.val = w2.val := ⟨v2.up w2, rfl⟩; rw [← hv3] at hO3 ⊢; clear hv3) | fail)
  refine bodyPost_ret (results_cell_row rfl _ _ (gu + 1) 26 #[.int .i64 (m : Nat), .slice ad2 A.length cp2] (0, 0) _ rfl (((HX.out.keep v3.below).set 0 _).set 1 _) Try.underlying26 rfl (by kernel_rfl)) rfl ?_
  obtain ⟨x1, hx1⟩ := later_set (HVY.out v3) (g := gu + 1) (i := 0) (by omega) (.int .i64 (m : Nat))
  obtain ⟨x2, hx2⟩ := later_set ⟨x1, hx1⟩ (g := gu + 1) (i := 1) (by omega) (.slice ad2 A.length cp2)
  refine RetP.of ⟨x2, hx2⟩ ?_
  have hBv : B ≤ v2.val.heap.size := by have := HYs.out; omega
  have hgv : gu + 1 < v2.val.heap.size := by omega
  exact ⟨ad2, cp2, rfl, ((hO3.set hgv _).set hgv _).mono hBv⟩

end Go.Proofs.Ytdieaijgoidocaa
