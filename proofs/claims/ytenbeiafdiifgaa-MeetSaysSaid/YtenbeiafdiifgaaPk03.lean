
/-
  rotaref.Elements, Size; math/bits.OnesCount; the small functions size of the packages: of sets below 256.
  rotaref.Those: all sets of a kind, rising, where the kind is told by a function value; rotaref.biggest.
-/
import Derived.Test.YtenbeiafdiifgaaPk02
namespace Go.Proofs.Ytenbeiafdiifgaa
open Go.RowKit
set_option linter.unusedVariables false

/-- the elements of a set, rising -/
def elems (s : Nat) : List Nat := (List.range 8).filter (fun i => s.testBit i)
def elemsTo (s k : Nat) : List Nat := (List.range k).filter (fun i => s.testBit i)
theorem elemsTo_step (s k : Nat) : elemsTo s (k + 1) = if s.testBit k = true then elemsTo s k ++ [k] else elemsTo s k := by
  unfold elemsTo
  rw [List.range_succ, List.filter_append]
  by_cases h : s.testBit k = true
  · simp [h]
  · simp [h]
theorem elemsTo_len (s k : Nat) : (elemsTo s k).length ≤ k := by
  have := List.length_filter_le (fun i => s.testBit i) (List.range k)
  simpa [elemsTo] using this
def ints (l : List Nat) : List Int := l.map (fun (x : Nat) => (x : Int))
theorem ints_len (l : List Nat) : (ints l).length = l.length := by simp [ints]
theorem ints_snoc (l : List Nat) (k : Nat) : ints (l ++ [k]) = ints l ++ [(k : Int)] := by simp [ints]
def sz (s : Nat) : Nat := (elems s).length
theorem sz_le (s : Nat) : sz s ≤ 8 := elemsTo_len s 8

set_option maxHeartbeats 1000000 in
theorem c_elements {B : Nat} {W : World} (u : Later B W) (s : Nat) (hs : s < 256) :
    Calls Try.prog 19 #[.int .i64 s] u.val (RetInts B W (ints (elems s))) := by
  go_enter Try.func19, Try.ntmps19
  go_wp2
  go_loopw [3, 4] (fun o i wr => ∃ (k : Nat) (ad : Option Addr) (cp : Nat) (u : Later B W), k ≤ 8 ∧ i = .int .i64 k ∧ o = .slice ad (ints (elemsTo s k)).length cp ∧ wr = u.val ∧ Hid (Own B u.val ad cp (ints (elemsTo s k)))) (fun _ i _ => 8 - (intOf i).toNat)
  case atStart => exact ⟨0, none, 0, u, by omega, rfl, rfl, rfl, Own.nil _ _⟩
  case round =>
    obtain ⟨k, ad, cp, u, hk, rfl, rfl, rfl, HO⟩ := hrel
    by_cases hlt : k < 8
    · have HIn := Lib.hid (c_in (Later.self u.val) s k (by omega) (by omega))
      have HE := Lib.hid (elemsTo_step s k)
      have HL : Hid ((ints (elemsTo s k)).length ≤ 8) := Lib.hid (by rw [ints_len]; have := elemsTo_len s k; omega)
      generalize elemsTo s k = L at *
      rcases btf (s.testBit k) with g1 | g1
      · rw [g1] at HIn
        have G1 := Lib.hid g1; clear g1
        go_wp2_with (first | (go_at_call 21; refine HIn.out.mono ?_; rintro e _ ⟨rfl, v1, rfl⟩) | (at_builtin; refine wpList_push (B := B) (W := W) (w := v1.val) (u.up v1).below (u.up v1).size rfl _ _ rfl (ints L) ad cp (k : Int) rfl (HO.out.keep v1.below) rfl (by have := HL.out; omega) ?_; intro u2 ad2 cp2 hown))
        go_roundw
        case rel =>
          refine ⟨k+1, ad2, cp2, u2, by omega, by go_num, ?_, rfl, ?_⟩
          · rw [HE.out, if_pos G1.out, ints_snoc]; simp
          · rw [HE.out, if_pos G1.out, ints_snoc]; exact hown
        case measure => simp [intOf]; omega
      · rw [g1] at HIn
        have G1 := Lib.hid g1; clear g1
        go_wp2_with (first | (go_at_call 21; refine HIn.out.mono ?_; rintro e _ ⟨rfl, v1, rfl⟩))
        go_roundw
        case rel =>
          have hne : ¬ s.testBit k = true := by rw [G1.out]; decide
          refine ⟨k+1, ad, cp, u.up v1, by omega, by go_num, ?_, rfl, ?_⟩
          · rw [HE.out, if_neg hne]
          · rw [HE.out, if_neg hne]; exact HO.out.keep v1.below
        case measure => simp [intOf]; omega
    · have hke : k = 8 := by omega
      subst hke
      go_wp2
      go_ret
      exact RetP.mk u (Reads.of_own HO.out)

set_option maxHeartbeats 400000 in
theorem c_size {B : Nat} {W : World} (u : Later B W) (s : Nat) (hs : s < 256) :
    Calls Try.prog 8 #[.int .i64 s] u.val (Ret B W (.int .i64 (sz s))) := by
  have H := Lib.hid (c_elements u s hs)
  go_enter Try.func8, Try.ntmps8
  go_wp2_with (first | (go_at_call 19; refine H.out.mono ?_; rintro e _ ⟨_, rfl, ⟨ad, cp, rfl, _, _⟩, v1, rfl⟩))
  go_ret
  exact Ret.mk _ (vint (by simp only [ints_len]; rfl))

set_option maxHeartbeats 1000000 in
theorem c_ones64 {B : Nat} {W : World} (u : Later B W) (s : Nat) (hs : s < 256) :
    Calls Try.prog 45 #[.int .u64 s] u.val (Ret B W (.int .i64 (sz s))) := by
  go_enter Try.func45, Try.ntmps45
  go_wp2
  go_ret
  refine Ret.mk _ (vint ?_)
  obtain ⟨x, rfl⟩ : ∃ x : Fin 256, s = x.val := ⟨⟨s, hs⟩, rfl⟩
  clear hs
  revert x
  decide +kernel

set_option maxHeartbeats 400000 in
theorem c_ones {B : Nat} {W : World} (u : Later B W) (s : Nat) (hs : s < 256) :
    Calls Try.prog 36 #[.int .u64 s] u.val (Ret B W (.int .i64 (sz s))) := by
  have H := Lib.hid (c_ones64 u s hs)
  go_enter Try.func36, Try.ntmps36
  go_wp2_with (first | (go_at_call 45; refine H.out.mono ?_; rintro e _ ⟨rfl, v1, rfl⟩))
  go_ret
  exact Ret.mk _ rfl





set_option maxHeartbeats 400000 in
theorem c_size_axioms {B : Nat} {W : World} (u : Later B W) (s : Nat) (hs : s < 256) :
    Calls Try.prog 41 #[.int .i64 s] u.val (Ret B W (.int .i64 (sz s))) := by
  have H := Lib.hid (c_ones u s hs)
  go_enter Try.func41, Try.ntmps41
  go_wp2_with (first | (go_at_call 36; refine H.out.mono ?_; rintro e _ ⟨rfl, v1, rfl⟩))
  go_ret
  exact Ret.mk _ rfl



set_option maxHeartbeats 400000 in
theorem c_size_meet {B : Nat} {W : World} (u : Later B W) (s : Nat) (hs : s < 256) :
    Calls Try.prog 26 #[.int .i64 s] u.val (Ret B W (.int .i64 (sz s))) := by
  have H := Lib.hid (c_ones u s hs)
  go_enter Try.func26, Try.ntmps26
  go_wp2_with (first | (go_at_call 36; refine H.out.mono ?_; rintro e _ ⟨rfl, v1, rfl⟩))
  go_ret
  exact Ret.mk _ rfl







end Go.Proofs.Ytenbeiafdiifgaa

namespace Go.Proofs.Ytenbeiafdiifgaa
open Go.RowKit
set_option linter.unusedVariables false

/-- function k is one that is entered when it is called -/
def Plain (k : FuncId) : Prop := ∀ (args : Array Value) (w : World), (callFunc k args).run Try.prog w = .ok (.enter k args) w

/-- a function value that tells of each set below 2^m whether it is of a kind, in whatever later world -/
def Tells (B : Nat) (W : World) (k : FuncId) (caps : Array Value) (m : Nat) (p : Nat → Bool) : Prop :=
  ∀ (x : Later B W) (v : Later x.val.heap.size x.val) (s : Nat), s < bit m → Calls Try.prog k (#[.int .i64 (s : Int)] ++ caps) v.val (Ret x.val.heap.size x.val (.bool (p s)))

/-- a result: a row of the call's own -/
def RetOwn (B : Nat) (W : World) (xs : List Int) : Ending → World → Prop := RetP B W fun v w => ∃ ad cap, v = .slice ad xs.length cap ∧ Own B w ad cap xs
theorem RetOwn.ints {B : Nat} {W : World} {xs : List Int} {e : Ending} {w : World} (h : RetOwn B W xs e w) : RetInts B W xs e w := by
  obtain ⟨v, rfl, ⟨ad, cap, rfl, ho⟩, u, rfl⟩ := h
  exact RetP.mk u (Reads.of_own ho)

def those (m : Nat) (p : Nat → Bool) : List Nat := (List.range (bit m)).filter p
def thoseTo (p : Nat → Bool) (k : Nat) : List Nat := (List.range k).filter p
theorem thoseTo_step (p : Nat → Bool) (k : Nat) : thoseTo p (k + 1) = if p k = true then thoseTo p k ++ [k] else thoseTo p k := by
  unfold thoseTo
  rw [List.range_succ, List.filter_append]
  by_cases h : p k = true
  · simp [h]
  · simp [h]
theorem thoseTo_len (p : Nat → Bool) (k : Nat) : (thoseTo p k).length ≤ k := by
  have := List.length_filter_le p (List.range k)
  simpa [thoseTo] using this
theorem mem_those {m : Nat} {p : Nat → Bool} {s : Nat} : s ∈ those m p ↔ s < bit m ∧ p s = true := by simp [those]

set_option maxRecDepth 100000 in
set_option maxHeartbeats 1000000 in
theorem c_those_own {B : Nat} {W : World} (u : Later B W) (m : Nat) (hm : m ≤ 8) (k : FuncId) (caps : Array Value) (p : Nat → Bool) (hpl : Plain k) (hk : Tells B W k caps m p) :
    Calls Try.prog 30 #[.int .i64 m, .func (.func k) #[] caps] u.val (RetOwn B W (ints (those m p))) := by
  have hb := bit_le m hm
  have HK := Lib.hid hk; clear hk
  have HA : Hid (∀ (B : Nat) (W : World) (u : Later B W), Calls Try.prog 7 #[.int .i64 m] u.val (Ret B W (.int .i64 ((bit m : Int) - 1)))) := fun B W u => by have := c_all u m (by omega) (by omega); rwa [all_nat, show ((bit m - 1 : Nat) : Int) = (bit m : Int) - 1 by omega] at this
  go_enter Try.func30, Try.ntmps30
  go_wp2
  go_loopw [5, 6] (fun o i wr => ∃ (s : Nat) (ad : Option Addr) (cp : Nat) (u : Later B W), s ≤ bit m ∧ i = .int .i64 s ∧ o = .slice ad (ints (thoseTo p s)).length cp ∧ wr = u.val ∧ Hid (Own B u.val ad cp (ints (thoseTo p s)))) (fun _ i _ => bit m - (intOf i).toNat)
  case atStart => exact ⟨0, none, 0, u, by omega, rfl, rfl, rfl, Own.nil _ _⟩
  case round =>
    obtain ⟨s, ad, cp, u, hs, rfl, rfl, rfl, HO⟩ := hrel
    have HA1 := Lib.hid (HA.out _ _ (Later.self u.val))
    have HE := Lib.hid (thoseTo_step p s)
    have HL : Hid ((ints (thoseTo p s)).length ≤ 256) := Lib.hid (by rw [ints_len]; have := thoseTo_len p s; omega)
    have hp1 : ∀ (args : Array Value) (w : World), (callFunc k args).run Try.prog w = .ok (.enter k args) w := hpl
    rcases ile (s : Int) ((bit m : Int) - 1) with ⟨hlt, d0⟩ | ⟨hlt, d0⟩
    · have HK1 := Lib.hid (fun v => HK.out u v s (by omega))
      generalize thoseTo p s = L at *
      rcases btf (p s) with g1 | g1
      · rw [g1] at HK1
        have G1 := Lib.hid g1; clear g1
        go_wp2_with (first | (go_at_call 7; refine HA1.out.mono ?_; rintro e _ ⟨rfl, v1, rfl⟩) | (refine (HK1.out v1).mono ?_; rintro e _ ⟨rfl, v2, rfl⟩) | (at_builtin; refine wpList_push (B := B) (W := W) (w := v2.val) (u.up v2).below (u.up v2).size rfl _ _ rfl (ints L) ad cp (s : Int) rfl (HO.out.keep v2.below) rfl (by have := HL.out; omega) ?_; intro u2 ad2 cp2 hown))
        go_roundw
        case rel =>
          refine ⟨s+1, ad2, cp2, u2, by omega, by go_num, ?_, rfl, ?_⟩
          · rw [HE.out, if_pos G1.out, ints_snoc]; simp
          · rw [HE.out, if_pos G1.out, ints_snoc]; exact hown
        case measure => simp [intOf]; omega
      · rw [g1] at HK1
        have G1 := Lib.hid g1; clear g1
        go_wp2_with (first | (go_at_call 7; refine HA1.out.mono ?_; rintro e _ ⟨rfl, v1, rfl⟩) | (refine (HK1.out v1).mono ?_; rintro e _ ⟨rfl, v2, rfl⟩))
        go_roundw
        case rel =>
          have hne : ¬ p s = true := by rw [G1.out]; decide
          refine ⟨s+1, ad, cp, u.up v2, by omega, by go_num, ?_, rfl, ?_⟩
          · rw [HE.out, if_neg hne]
          · rw [HE.out, if_neg hne]; exact HO.out.keep v2.below
        case measure => simp [intOf]; omega
    · have hse : Hid (s = bit m) := Lib.hid (by omega)
      go_wp2_with (first | (go_at_call 7; refine HA1.out.mono ?_; rintro e _ ⟨rfl, v1, rfl⟩))
      go_ret
      refine RetP.mk (u.up v1) ?_
      have := HO.out.keep v1.below
      rw [hse.out] at this ⊢
      exact ⟨_, _, rfl, this⟩
theorem c_those {B : Nat} {W : World} (u : Later B W) (m : Nat) (hm : m ≤ 8) (k : FuncId) (caps : Array Value) (p : Nat → Bool) (hpl : Plain k) (hk : Tells B W k caps m p) :
    Calls Try.prog 30 #[.int .i64 m, .func (.func k) #[] caps] u.val (RetInts B W (ints (those m p))) := (c_those_own u m hm k caps p hpl hk).mono fun _ _ h => h.ints

/-- the greatest size of the first k of a list of sets -/
def mostTo (l : List Nat) : Nat → Nat
  | 0 => 0
  | k + 1 => max (mostTo l k) (sz (l.getD k 0))
theorem mostTo_le (l : List Nat) (k : Nat) : mostTo l k ≤ 8 := by
  induction k with
  | zero => exact Nat.zero_le _
  | succ k ih => have := sz_le (l.getD k 0); show max _ _ ≤ 8; omega
theorem mostTo_ge (l : List Nat) {k i : Nat} (h : i < k) : sz (l.getD i 0) ≤ mostTo l k := by
  induction k with
  | zero => omega
  | succ k ih =>
    show _ ≤ max _ _
    by_cases e : i = k
    · subst e; omega
    · have := ih (by omega); omega
def biggestTo (l : List Nat) (k : Nat) : List Nat := (l.take k).filter (fun s => sz s == mostTo l l.length)
theorem biggestTo_step (l : List Nat) {k : Nat} (hk : k < l.length) : biggestTo l (k + 1) = if sz (l.getD k 0) = mostTo l l.length then biggestTo l k ++ [l.getD k 0] else biggestTo l k := by
  unfold biggestTo
  rw [List.take_add_one, List.getElem?_eq_getElem hk, List.filter_append]
  have : l.getD k 0 = l[k] := by simp [hk]
  rw [this]
  by_cases h : sz l[k] = mostTo l l.length
  · simp [h]
  · simp [h]
def biggest (l : List Nat) : List Nat := biggestTo l l.length
theorem biggest_eq (l : List Nat) : biggest l = l.filter (fun s => sz s == mostTo l l.length) := by unfold biggest biggestTo; rw [List.take_length]
theorem ints_getD (l : List Nat) (k : Nat) : (ints l).getD k 0 = ((l.getD k 0 : Nat) : Int) := by
  unfold ints
  by_cases h : k < l.length
  · simp [h]
  · simp [h]

end Go.Proofs.Ytenbeiafdiifgaa
