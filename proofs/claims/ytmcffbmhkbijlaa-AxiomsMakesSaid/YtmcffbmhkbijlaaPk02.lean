
/-
  Slices of int that a call makes itself: append of one number, append of a slice, make. Laws for the walk, over this seat's own type numbers.
  rotaref.Elements, Size; math/bits.OnesCount; the small functions size of the packages: of sets below 256.
  rotaref.Those: all sets of a kind, rising, where the kind is told by a function value; rotaref.biggest.
-/
import Derived.Test.YtmcffbmhkbijlaaPk01
import Derived.Laws.AppendOwnNone
import Derived.Deep.OwnRows
namespace Go.Proofs.Ytmcffbmhkbijlaa
open Go.RowKit
set_option linter.unusedVariables false

theorem info_int : (Try.prog.info? 3).map (fun i => (i.zero, i.size, i.bytes)) = some (some (.int .i64 0), 1, 8) := by kernel_rfl

/-- an argument's slice reads as its numbers -/
theorem IntsAt.of_cells {W : World} {x : Addr} {n c : Nat} {zs : List Int} {ps : List MemPlace} (hlt : ∀ p ∈ MemPlace.row x zs.length ++ ps, p.block < W.heap.size) (hz : zs.length = c) (hcell : ∀ i, i < zs.length → W.cell? (x.add i) = some (.int .i64 (zs.getD i 0))) :
    IntsAt W.heap.size W (some x) (zs.take n) := by
  intro hne
  have h0 : 0 < zs.length := by
    rcases Nat.eq_zero_or_pos zs.length with h | h
    · have := List.length_eq_zero_iff.1 h
      subst this
      simp at hne
    · exact h
  obtain ⟨b, off, spot⟩ := x
  have hspot : spot = none := by simpa [Addr.add] using World.cell?_spot (hcell 0 h0)
  subst hspot
  refine ⟨b, off, rfl, hlt (.cell b off) (List.mem_append_left _ (MemPlace.mem_row.2 ⟨0, by omega, by simp⟩)), fun k hk => ?_⟩
  simp at hk
  have hk1 : k < n := by omega
  have hk2 : k < zs.length := by omega
  have := hcell k hk2
  have hadd : (⟨b, off, none⟩ : Addr).add k = ⟨b, off + k, none⟩ := by unfold Addr.add; split <;> simp_all
  rw [hadd] at this
  rw [this]
  simp [hk1, hk2]

/-- a row of numbers that the call owns -/
def Own (B : Nat) (w : World) (ad : Option Addr) (cap : Nat) (xs : List Int) : Prop := w.ownsRow B 3 1 (.slice ad xs.length cap) xs.length (xs.map (Value.int .i64))
theorem Own.nil (B : Nat) (w : World) : Own B w none 0 [] := World.ownsRow_nil w B 3 1
theorem Own.reads {B : Nat} {w : World} {ad : Option Addr} {cap : Nat} {xs : List Int} (h : Own B w ad cap xs) : IntsAt w.heap.size w ad xs := IntsAt.of_owns h
theorem Own.cap {B : Nat} {w : World} {ad : Option Addr} {cap : Nat} {xs : List Int} (h : Own B w ad cap xs) : ad = none → cap = 0 := by
  rintro rfl
  rcases h.2 with ⟨e, _⟩ | ⟨g, c, cur, e, _⟩
  · simp only [Value.slice.injEq] at e; exact e.2.2
  · simp at e
theorem Own.alloc {B : Nat} {w : World} {ad : Option Addr} {cap : Nat} {xs : List Int} (h : Own B w ad cap xs) (o : Obj) : Own B (w.alloc o) ad cap xs := World.ownsRow.alloc h o
/-- kept by whatever leaves old blocks alone -/
theorem Own.keep {B : Nat} {w w' : World} {ad : Option Addr} {cap : Nat} {xs : List Int} (h : Own B w ad cap xs) (hb : Below w.heap.size w w') : Own B w' ad cap xs :=
  World.ownsRow.kept (row := none) h ⟨hb.os, hb.tape, hb.output, hb.size, fun k hk _ => hb.block k hk⟩ (by cases (Value.slice ad xs.length cap).ownBlock <;> simp)
/-- kept over a write to a row that is not it -/
theorem Own.kept {B : Nat} {w w' : World} {ad : Option Addr} {cap : Nat} {xs : List Int} (h : Own B w ad cap xs) {row : Option Nat} (hg : w.grownBy w' row) (hne : (Value.slice ad xs.length cap).ownBlock = none ∨ (Value.slice ad xs.length cap).ownBlock ≠ row) : Own B w' ad cap xs :=
  World.ownsRow.kept h hg hne
theorem Own.lit {B : Nat} {w : World} (hB : B ≤ w.heap.size) (x : Int) : Own B (w.alloc (.cells #[.int .i64 x] 3)) (some ⟨w.heap.size, 0, none⟩) 1 [x] :=
  ⟨by simp, .inr ⟨w.heap.size, 1, #[.int .i64 x], rfl, hB, heap_alloc_new w _, by simp, by simp [maxLen], by simp, by simp⟩⟩

/-- the reading of a slice's value: its numbers, at blocks below B -/
def Reads (B : Nat) (w : World) (v : Value) (xs : List Int) : Prop := ∃ ad cap, v = .slice ad xs.length cap ∧ IntsAt B w ad xs ∧ (ad = none → cap = 0)
theorem Reads.mk {B : Nat} {w : World} {ad : Option Addr} {cap : Nat} {xs : List Int} (h : IntsAt B w ad xs) (hc : ad = none → cap = 0) : Reads B w (.slice ad xs.length cap) xs := ⟨ad, cap, rfl, h, hc⟩
theorem Reads.of_own {B : Nat} {w : World} {ad : Option Addr} {cap : Nat} {xs : List Int} (h : Own B w ad cap xs) : Reads w.heap.size w (.slice ad xs.length cap) xs := ⟨ad, cap, rfl, h.reads, h.cap⟩
theorem Reads.nil (B : Nat) (w : World) : Reads B w (.slice none 0 0) [] := ⟨none, 0, rfl, IntsAt.nil, fun _ => rfl⟩
theorem Reads.keep {B : Nat} {w w' : World} {v : Value} {xs : List Int} (h : Reads B w v xs) (hb : Below B w w') : Reads B w' v xs := by
  obtain ⟨ad, cap, e, hi, hc⟩ := h
  exact ⟨ad, cap, e, hi.later hb, hc⟩
theorem Reads.mono {B B' : Nat} {w : World} {v : Value} {xs : List Int} (h : Reads B w v xs) (hb : B ≤ B') : Reads B' w v xs := by
  obtain ⟨ad, cap, e, hi, hc⟩ := h
  exact ⟨ad, cap, e, hi.mono hb, hc⟩
/-- a result: a list of numbers -/
def RetInts (B : Nat) (W : World) (xs : List Int) : Ending → World → Prop := RetP B W fun v w => Reads w.heap.size w v xs

/-- append of a slice that reads as a list, to a row of the call's own: also what the append has left alone is told -/
theorem wpList_appends_g {w : World} {B : Nat} (hB : B ≤ w.heap.size) {ops : Array Oper} {rest : List Oper} {o : Oper} {a : Act} {Q : Exit → Act → World → Prop} (hgd : o.guard = none) (s x : Operand)
    (ho : o.op = .call { callee := .builtin .append, args := #[s, x], argTypes := #[22, 22] })
    (xs : List Int) (ad : Option Addr) (cap : Nat) (hs : a.eval s = .slice ad xs.length cap) (hown : Own B w ad cap xs)
    (ys : List Int) (ax : Option Addr) (cx : Nat) (hx : a.eval x = .slice ax ys.length cx) (hy : IntsAt w.heap.size w ax ys) (hcx : ax = none → cx = 0)
    (hlen : xs.length + ys.length ≤ 17592186044416)
    (h : ∀ (w' : World) (ad' : Option Addr) (cap' : Nat), Own B w' ad' cap' (xs ++ ys) → w.grownBy w' (Value.slice ad xs.length cap).ownBlock → wpList Try.prog ops Q rest (a.put o.dst (.slice ad' (xs ++ ys).length cap')) w') :
    wpList Try.prog ops Q (o :: rest) a w := by
  obtain ⟨i0, hi, hz0, hz1, hz2⟩ := info_parts info_int
  have grow : ∀ (v' : Value) (w' : World), w'.ownsRow B 3 1 v' (xs ++ ys).length ((xs ++ ys).map (Value.int .i64)) → w.grownBy w' (Value.slice ad xs.length cap).ownBlock → wpList Try.prog ops Q rest (a.put o.dst v') w' := by
    intro v' w' h1 h2
    rcases h1.2 with ⟨e, hn⟩ | ⟨g, c', cur, e, _⟩
    · subst e
      have hz := h w' none 0 (by
        have hnil : xs ++ ys = [] := List.length_eq_zero_iff.1 hn
        show w'.ownsRow B 3 1 (.slice none (xs ++ ys).length 0) (xs ++ ys).length ((xs ++ ys).map (Value.int .i64))
        rw [hnil]; exact World.ownsRow_nil _ _ _ _) h2
      rw [hn] at hz; exact hz
    · subst e
      exact h w' (some ⟨g, 0, none⟩) c' h1 h2
  cases hax : ax with
  | none =>
    subst hax
    have hc0 := hcx rfl
    subst hc0
    have hyl : ys = [] := by
      by_cases e : ys = []
      · exact e
      · obtain ⟨b, off, e2, _⟩ := hy e; cases e2
    subst hyl
    refine wpList_append_own_none hgd s x 22 ho B 3 i0 1 Try.underlying22 hi _ xs.length _ hs hown hx ?_
    have := grow (.slice ad xs.length cap) w (by rw [List.append_nil]; exact hown) ⟨rfl, rfl, rfl, Nat.le_refl _, fun _ _ _ => rfl⟩
    exact this
  | some p =>
    subst hax
    refine wpList_append_own w hgd s x 22 ho B 3 i0 (.int .i64 0) 1 8 Try.underlying22 hi hz0 hz1 hz2 rfl (by decide) _ xs.length _ hs hown p ys.length cx (ys.map (Value.int .i64)) hx (by simp) ?_ ?_ ?_ ?_ hB ?_
    · intro j v hj
      by_cases e : ys = []
      · subst e; simp at hj
      · obtain ⟨b, off, e2, _, hc⟩ := hy e
        simp only [Option.some.injEq] at e2
        subst e2
        have hjl : j < ys.length := by
          have := (List.getElem?_eq_some_iff.1 hj).1
          simpa using this
        have hcj := hc j hjl
        have hadd : (⟨b, off, none⟩ : Addr).add j = ⟨b, off + j, none⟩ := by unfold Addr.add; split <;> simp_all
        rw [hadd, hcj]
        simp [hjl] at hj
        rw [← hj]
        simp [hjl]
    · intro v hv
      simp at hv
      obtain ⟨y, _, rfl⟩ := hv
      rfl
    · unfold maxLen; omega
    · omega
    · intro v' w' h1 h2 _
      exact grow v' w' (by simpa using h1) h2

theorem own_below {B : Nat} {W w w' : World} {ad : Option Addr} {cap : Nat} {xs : List Int} (u : Below B W w) (hB : B ≤ w.heap.size) (hown : Own B w ad cap xs) (hg : w.grownBy w' (Value.slice ad xs.length cap).ownBlock) : Below B W w' :=
  u.grown hg hB (fun k hk => (World.ownsRow.lt hown k hk).1)

/-- append of one number to a row of the call's own -/
theorem wpList_push {B : Nat} {W w : World} (hw : Below B W w) (hB : B ≤ w.heap.size) {ops : Array Oper} {rest : List Oper} {o : Oper} {a : Act} {Q : Exit → Act → World → Prop} (hgd : o.guard = none) (s x : Operand)
    (ho : o.op = .call { callee := .builtin .append, args := #[s, x], argTypes := #[22, 22] })
    (xs : List Int) (ad : Option Addr) (cap : Nat) (y : Int) (hs : a.eval s = .slice ad xs.length cap) (hown : Own B w ad cap xs)
    (hx : a.eval x = .slice (some ⟨w.heap.size, 0, none⟩) 1 1)
    (hlen : xs.length + 1 ≤ 17592186044416)
    (h : ∀ (u' : Later B W) (ad' : Option Addr) (cap' : Nat), Own B u'.val ad' cap' (xs ++ [y]) → wpList Try.prog ops Q rest (a.put o.dst (.slice ad' (xs ++ [y]).length cap')) u'.val) :
    wpList Try.prog ops Q (o :: rest) a (w.alloc (.cells #[.int .i64 y] 3)) := by
  refine wpList_appends_g (B := B) (by simp; omega) hgd s x ho xs ad cap hs (hown.alloc _) [y] (some ⟨w.heap.size, 0, none⟩) 1 hx ?_ (by simp) (by simpa using hlen) ?_
  · intro _
    refine ⟨w.heap.size, 0, rfl, by simp, fun k hk => ?_⟩
    have : k = 0 := by simp at hk; omega
    subst this
    exact cell_one_new w (.int .i64 y) 3 0 _ rfl
  · intro w' ad' cap' h1 h2
    exact h ⟨w', own_below (hw.alloc hB _) (by simp; omega) (hown.alloc _) h2, by have := h2.size; simp at this; omega⟩ ad' cap' h1

end Go.Proofs.Ytmcffbmhkbijlaa

namespace Go.Proofs.Ytmcffbmhkbijlaa
open Go.RowKit
set_option linter.unusedVariables false

/-- the elements of a set, rising -/
def elems (s : Nat) : List Nat := (List.range 8).filter (fun i => s.testBit i)
def elemsTo (s k : Nat) : List Nat := (List.range k).filter (fun i => s.testBit i)
theorem elemsTo_step (s k : Nat) : elemsTo s (k + 1) = if s.testBit k = true then elemsTo s k ++ [k] else elemsTo s k := by
  unfold elemsTo
  rw [List.range_succ, List.filter_append]
  by_cases h : s.testBit k = true
  · simp [h]
  · simp [h]
theorem elemsTo_len (s k : Nat) : (elemsTo s k).length ≤ k := by
  have := List.length_filter_le (fun i => s.testBit i) (List.range k)
  simpa [elemsTo] using this
def ints (l : List Nat) : List Int := l.map (fun (x : Nat) => (x : Int))
theorem ints_len (l : List Nat) : (ints l).length = l.length := by simp [ints]
theorem ints_snoc (l : List Nat) (k : Nat) : ints (l ++ [k]) = ints l ++ [(k : Int)] := by simp [ints]
def sz (s : Nat) : Nat := (elems s).length
theorem sz_le (s : Nat) : sz s ≤ 8 := elemsTo_len s 8

set_option maxHeartbeats 1000000 in
theorem c_elements {B : Nat} {W : World} (u : Later B W) (s : Nat) (hs : s < 256) :
    Calls Try.prog 61 #[.int .i64 s] u.val (RetInts B W (ints (elems s))) := by
  go_enter Try.func61, Try.ntmps61
  go_wp2
  go_loopw [3, 4] (fun o i wr => ∃ (k : Nat) (ad : Option Addr) (cp : Nat) (u : Later B W), k ≤ 8 ∧ i = .int .i64 k ∧ o = .slice ad (ints (elemsTo s k)).length cp ∧ wr = u.val ∧ Hid (Own B u.val ad cp (ints (elemsTo s k)))) (fun _ i _ => 8 - (intOf i).toNat)
  case atStart => exact ⟨0, none, 0, u, by omega, rfl, rfl, rfl, Own.nil _ _⟩
  case round =>
    obtain ⟨k, ad, cp, u, hk, rfl, rfl, rfl, HO⟩ := hrel
    by_cases hlt : k < 8
    · have HIn := Lib.hid (c_in (Later.self u.val) s k (by omega) (by omega))
      have HE := Lib.hid (elemsTo_step s k)
      have HL : Hid ((ints (elemsTo s k)).length ≤ 8) := Lib.hid (by rw [ints_len]; have := elemsTo_len s k; omega)
      generalize elemsTo s k = L at *
      rcases btf (s.testBit k) with g1 | g1
      · rw [g1] at HIn
        have G1 := Lib.hid g1; clear g1
        go_wp2_with (first | (go_at_call 36; refine HIn.out.mono ?_; rintro e _ ⟨rfl, v1, rfl⟩) | (at_builtin; refine wpList_push (B := B) (W := W) (w := v1.val) (u.up v1).below (u.up v1).size rfl _ _ rfl (ints L) ad cp (k : Int) rfl (HO.out.keep v1.below) rfl (by have := HL.out; omega) ?_; intro u2 ad2 cp2 hown))
        go_roundw
        case rel =>
          refine ⟨k+1, ad2, cp2, u2, by omega, by go_num, ?_, rfl, ?_⟩
          · rw [HE.out, if_pos G1.out, ints_snoc]; simp
          · rw [HE.out, if_pos G1.out, ints_snoc]; exact hown
        case measure => simp [intOf]; omega
      · rw [g1] at HIn
        have G1 := Lib.hid g1; clear g1
        go_wp2_with (first | (go_at_call 36; refine HIn.out.mono ?_; rintro e _ ⟨rfl, v1, rfl⟩))
        go_roundw
        case rel =>
          have hne : ¬ s.testBit k = true := by rw [G1.out]; decide
          refine ⟨k+1, ad, cp, u.up v1, by omega, by go_num, ?_, rfl, ?_⟩
          · rw [HE.out, if_neg hne]
          · rw [HE.out, if_neg hne]; exact HO.out.keep v1.below
        case measure => simp [intOf]; omega
    · have hke : k = 8 := by omega
      subst hke
      go_wp2
      go_ret
      exact RetP.mk u (Reads.of_own HO.out)

set_option maxHeartbeats 400000 in
theorem c_size {B : Nat} {W : World} (u : Later B W) (s : Nat) (hs : s < 256) :
    Calls Try.prog 37 #[.int .i64 s] u.val (Ret B W (.int .i64 (sz s))) := by
  have H := Lib.hid (c_elements u s hs)
  go_enter Try.func37, Try.ntmps37
  go_wp2_with (first | (go_at_call 61; refine H.out.mono ?_; rintro e _ ⟨_, rfl, ⟨ad, cp, rfl, _, _⟩, v1, rfl⟩))
  go_ret
  exact Ret.mk _ (vint (by simp only [ints_len]; rfl))

set_option maxHeartbeats 1000000 in
theorem c_ones64 {B : Nat} {W : World} (u : Later B W) (s : Nat) (hs : s < 256) :
    Calls Try.prog 70 #[.int .u64 s] u.val (Ret B W (.int .i64 (sz s))) := by
  go_enter Try.func70, Try.ntmps70
  go_wp2
  go_ret
  refine Ret.mk _ (vint ?_)
  obtain ⟨x, rfl⟩ : ∃ x : Fin 256, s = x.val := ⟨⟨s, hs⟩, rfl⟩
  clear hs
  revert x
  decide +kernel

set_option maxHeartbeats 400000 in
theorem c_ones {B : Nat} {W : World} (u : Later B W) (s : Nat) (hs : s < 256) :
    Calls Try.prog 64 #[.int .u64 s] u.val (Ret B W (.int .i64 (sz s))) := by
  have H := Lib.hid (c_ones64 u s hs)
  go_enter Try.func64, Try.ntmps64
  go_wp2_with (first | (go_at_call 70; refine H.out.mono ?_; rintro e _ ⟨rfl, v1, rfl⟩))
  go_ret
  exact Ret.mk _ rfl





set_option maxHeartbeats 400000 in
theorem c_size_axioms {B : Nat} {W : World} (u : Later B W) (s : Nat) (hs : s < 256) :
    Calls Try.prog 46 #[.int .i64 s] u.val (Ret B W (.int .i64 (sz s))) := by
  have H := Lib.hid (c_ones u s hs)
  go_enter Try.func46, Try.ntmps46
  go_wp2_with (first | (go_at_call 64; refine H.out.mono ?_; rintro e _ ⟨rfl, v1, rfl⟩))
  go_ret
  exact Ret.mk _ rfl










end Go.Proofs.Ytmcffbmhkbijlaa

namespace Go.Proofs.Ytmcffbmhkbijlaa
open Go.RowKit
set_option linter.unusedVariables false

/-- function k is one that is entered when it is called -/
def Plain (k : FuncId) : Prop := ∀ (args : Array Value) (w : World), (callFunc k args).run Try.prog w = .ok (.enter k args) w

/-- a function value that tells of each set below 2^m whether it is of a kind, in whatever later world -/
def Tells (B : Nat) (W : World) (k : FuncId) (caps : Array Value) (m : Nat) (p : Nat → Bool) : Prop :=
  ∀ (x : Later B W) (v : Later x.val.heap.size x.val) (s : Nat), s < bit m → Calls Try.prog k (#[.int .i64 (s : Int)] ++ caps) v.val (Ret x.val.heap.size x.val (.bool (p s)))

/-- a result: a row of the call's own -/
def RetOwn (B : Nat) (W : World) (xs : List Int) : Ending → World → Prop := RetP B W fun v w => ∃ ad cap, v = .slice ad xs.length cap ∧ Own B w ad cap xs
theorem RetOwn.ints {B : Nat} {W : World} {xs : List Int} {e : Ending} {w : World} (h : RetOwn B W xs e w) : RetInts B W xs e w := by
  obtain ⟨v, rfl, ⟨ad, cap, rfl, ho⟩, u, rfl⟩ := h
  exact RetP.mk u (Reads.of_own ho)

def those (m : Nat) (p : Nat → Bool) : List Nat := (List.range (bit m)).filter p
def thoseTo (p : Nat → Bool) (k : Nat) : List Nat := (List.range k).filter p
theorem thoseTo_step (p : Nat → Bool) (k : Nat) : thoseTo p (k + 1) = if p k = true then thoseTo p k ++ [k] else thoseTo p k := by
  unfold thoseTo
  rw [List.range_succ, List.filter_append]
  by_cases h : p k = true
  · simp [h]
  · simp [h]
theorem thoseTo_len (p : Nat → Bool) (k : Nat) : (thoseTo p k).length ≤ k := by
  have := List.length_filter_le p (List.range k)
  simpa [thoseTo] using this
theorem mem_those {m : Nat} {p : Nat → Bool} {s : Nat} : s ∈ those m p ↔ s < bit m ∧ p s = true := by simp [those]

set_option maxRecDepth 100000 in
set_option maxHeartbeats 1000000 in
theorem c_those_own {B : Nat} {W : World} (u : Later B W) (m : Nat) (hm : m ≤ 8) (k : FuncId) (caps : Array Value) (p : Nat → Bool) (hpl : Plain k) (hk : Tells B W k caps m p) :
    Calls Try.prog 40 #[.int .i64 m, .func (.func k) #[] caps] u.val (RetOwn B W (ints (those m p))) := by
  have hb := bit_le m hm
  have HK := Lib.hid hk; clear hk
  have HA : Hid (∀ (B : Nat) (W : World) (u : Later B W), Calls Try.prog 17 #[.int .i64 m] u.val (Ret B W (.int .i64 ((bit m : Int) - 1)))) := fun B W u => by have := c_all u m (by omega) (by omega); rwa [all_nat, show ((bit m - 1 : Nat) : Int) = (bit m : Int) - 1 by omega] at this
  go_enter Try.func40, Try.ntmps40
  go_wp2
  go_loopw [5, 6] (fun o i wr => ∃ (s : Nat) (ad : Option Addr) (cp : Nat) (u : Later B W), s ≤ bit m ∧ i = .int .i64 s ∧ o = .slice ad (ints (thoseTo p s)).length cp ∧ wr = u.val ∧ Hid (Own B u.val ad cp (ints (thoseTo p s)))) (fun _ i _ => bit m - (intOf i).toNat)
  case atStart => exact ⟨0, none, 0, u, by omega, rfl, rfl, rfl, Own.nil _ _⟩
  case round =>
    obtain ⟨s, ad, cp, u, hs, rfl, rfl, rfl, HO⟩ := hrel
    have HA1 := Lib.hid (HA.out _ _ (Later.self u.val))
    have HE := Lib.hid (thoseTo_step p s)
    have HL : Hid ((ints (thoseTo p s)).length ≤ 256) := Lib.hid (by rw [ints_len]; have := thoseTo_len p s; omega)
    have hp1 : ∀ (args : Array Value) (w : World), (callFunc k args).run Try.prog w = .ok (.enter k args) w := hpl
    rcases ile (s : Int) ((bit m : Int) - 1) with ⟨hlt, d0⟩ | ⟨hlt, d0⟩
    · have HK1 := Lib.hid (fun v => HK.out u v s (by omega))
      generalize thoseTo p s = L at *
      rcases btf (p s) with g1 | g1
      · rw [g1] at HK1
        have G1 := Lib.hid g1; clear g1
        go_wp2_with (first | (go_at_call 17; refine HA1.out.mono ?_; rintro e _ ⟨rfl, v1, rfl⟩) | (refine (HK1.out v1).mono ?_; rintro e _ ⟨rfl, v2, rfl⟩) | (at_builtin; refine wpList_push (B := B) (W := W) (w := v2.val) (u.up v2).below (u.up v2).size rfl _ _ rfl (ints L) ad cp (s : Int) rfl (HO.out.keep v2.below) rfl (by have := HL.out; omega) ?_; intro u2 ad2 cp2 hown))
        go_roundw
        case rel =>
          refine ⟨s+1, ad2, cp2, u2, by omega, by go_num, ?_, rfl, ?_⟩
          · rw [HE.out, if_pos G1.out, ints_snoc]; simp
          · rw [HE.out, if_pos G1.out, ints_snoc]; exact hown
        case measure => simp [intOf]; omega
      · rw [g1] at HK1
        have G1 := Lib.hid g1; clear g1
        go_wp2_with (first | (go_at_call 17; refine HA1.out.mono ?_; rintro e _ ⟨rfl, v1, rfl⟩) | (refine (HK1.out v1).mono ?_; rintro e _ ⟨rfl, v2, rfl⟩))
        go_roundw
        case rel =>
          have hne : ¬ p s = true := by rw [G1.out]; decide
          refine ⟨s+1, ad, cp, u.up v2, by omega, by go_num, ?_, rfl, ?_⟩
          · rw [HE.out, if_neg hne]
          · rw [HE.out, if_neg hne]; exact HO.out.keep v2.below
        case measure => simp [intOf]; omega
    · have hse : Hid (s = bit m) := Lib.hid (by omega)
      go_wp2_with (first | (go_at_call 17; refine HA1.out.mono ?_; rintro e _ ⟨rfl, v1, rfl⟩))
      go_ret
      refine RetP.mk (u.up v1) ?_
      have := HO.out.keep v1.below
      rw [hse.out] at this ⊢
      exact ⟨_, _, rfl, this⟩
theorem c_those {B : Nat} {W : World} (u : Later B W) (m : Nat) (hm : m ≤ 8) (k : FuncId) (caps : Array Value) (p : Nat → Bool) (hpl : Plain k) (hk : Tells B W k caps m p) :
    Calls Try.prog 40 #[.int .i64 m, .func (.func k) #[] caps] u.val (RetInts B W (ints (those m p))) := (c_those_own u m hm k caps p hpl hk).mono fun _ _ h => h.ints

/-- the greatest size of the first k of a list of sets -/
def mostTo (l : List Nat) : Nat → Nat
  | 0 => 0
  | k + 1 => max (mostTo l k) (sz (l.getD k 0))
theorem mostTo_le (l : List Nat) (k : Nat) : mostTo l k ≤ 8 := by
  induction k with
  | zero => exact Nat.zero_le _
  | succ k ih => have := sz_le (l.getD k 0); show max _ _ ≤ 8; omega
theorem mostTo_ge (l : List Nat) {k i : Nat} (h : i < k) : sz (l.getD i 0) ≤ mostTo l k := by
  induction k with
  | zero => omega
  | succ k ih =>
    show _ ≤ max _ _
    by_cases e : i = k
    · subst e; omega
    · have := ih (by omega); omega
def biggestTo (l : List Nat) (k : Nat) : List Nat := (l.take k).filter (fun s => sz s == mostTo l l.length)
theorem biggestTo_step (l : List Nat) {k : Nat} (hk : k < l.length) : biggestTo l (k + 1) = if sz (l.getD k 0) = mostTo l l.length then biggestTo l k ++ [l.getD k 0] else biggestTo l k := by
  unfold biggestTo
  rw [List.take_add_one, List.getElem?_eq_getElem hk, List.filter_append]
  have : l.getD k 0 = l[k] := by simp [hk]
  rw [this]
  by_cases h : sz l[k] = mostTo l l.length
  · simp [h]
  · simp [h]
def biggest (l : List Nat) : List Nat := biggestTo l l.length
theorem biggest_eq (l : List Nat) : biggest l = l.filter (fun s => sz s == mostTo l l.length) := by unfold biggest biggestTo; rw [List.take_length]
theorem ints_getD (l : List Nat) (k : Nat) : (ints l).getD k 0 = ((l.getD k 0 : Nat) : Int) := by
  unfold ints
  by_cases h : k < l.length
  · simp [h]
  · simp [h]

set_option maxHeartbeats 1000000 in
theorem c_biggest_own {B : Nat} {W : World} (u : Later B W) (l : List Nat) (a : Option Addr) (cap : Nat) (h : IntsAt B W a (ints l)) (hlen : l.length ≤ 1048576) (h256 : ∀ s ∈ l, s < 256) :
    Calls Try.prog 38 #[.slice a (ints l).length cap] u.val (RetOwn B W (ints (biggest l))) := by
  have HI := Lib.hid h; clear h
  rw [ints_len]
  have h8 : ∀ k, l.getD k 0 < 256 := fun k => by
    by_cases h : k < l.length
    · have : l.getD k 0 = l[k] := by simp [h]
      rw [this]; exact h256 _ (List.getElem_mem h)
    · simp [h]
  have H8 := Lib.hid h8; clear h8 h256
  go_enter Try.func38, Try.ntmps38
  go_wp2
  go_loopw [3, 4] (fun o i wr => ∃ (k : Nat) (u : Later B W), k ≤ l.length ∧ i = .int .i64 k ∧ o = .int .i64 (mostTo l k) ∧ wr = u.val) (fun _ i _ => l.length - (intOf i).toNat)
  case atStart => exact ⟨0, u, by omega, rfl, rfl, rfl⟩
  case round =>
    obtain ⟨k, u, hk, rfl, rfl, rfl⟩ := hrel
    by_cases hlt : k < l.length
    · obtain ⟨b, off, rfl, hbB, hcell⟩ := HI.out.at (k := k) (by rw [ints_len]; exact hlt)
      have c0 : u.val.cell? ⟨b, off + k, none⟩ = some (.int .i64 ((l.getD k 0 : Nat) : Int)) := by rw [← ints_getD]; exact hcell u k (by rw [ints_len]; exact hlt)
      have HS := Lib.hid (fun u : Later B W => c_size u (l.getD k 0) (H8.out k))
      have HM : Hid (mostTo l (k+1) = max (mostTo l k) (sz (l.getD k 0))) := Lib.hid rfl
      clear hcell
      generalize l.getD k 0 = x at *
      have hx := sz_le x
      have hy := mostTo_le l k
      go_wp2_with (first | (go_at_call 37; refine (HS.out _).mono ?_; rintro e _ ⟨rfl, v1, rfl⟩))
      go_roundw
      case rel => exact ⟨k+1, v1, by omega, by go_num, vint (by rw [HM.out]; omega), rfl⟩
      case measure => simp [intOf]; omega
    · have hke : k = l.length := by omega
      subst hke
      have hy := mostTo_le l l.length
      go_wp2
      go_loopw [5, 6] (fun o i wr => ∃ (k : Nat) (ad : Option Addr) (cp : Nat) (u : Later B W), k ≤ l.length ∧ i = .int .i64 k ∧ o = .slice ad (ints (biggestTo l k)).length cp ∧ wr = u.val ∧ Hid (Own B u.val ad cp (ints (biggestTo l k)))) (fun _ i _ => l.length - (intOf i).toNat)
      case atStart => exact ⟨0, none, 0, u, by omega, rfl, rfl, rfl, Own.nil _ _⟩
      case round =>
        obtain ⟨k, ad, cp, u, hk, rfl, rfl, rfl, HO⟩ := hrel
        by_cases hlt : k < l.length
        · obtain ⟨b, off, rfl, hbB, hcell⟩ := (HI.out.to u).at (k := k) (by rw [ints_len]; exact hlt)
          have c0 : ∀ v : Later u.val.heap.size u.val, v.val.cell? ⟨b, off + k, none⟩ = some (.int .i64 ((l.getD k 0 : Nat) : Int)) := fun v => by rw [← ints_getD]; exact hcell v k (by rw [ints_len]; exact hlt)
          have HS := Lib.hid (fun v : Later u.val.heap.size u.val => c_size v (l.getD k 0) (H8.out k))
          have HE := Lib.hid (biggestTo_step l hlt)
          have HL : Hid ((ints (biggestTo l k)).length ≤ 1048576) := Lib.hid (by
            rw [ints_len]
            have h1 := List.length_filter_le (fun s => sz s == mostTo l l.length) (l.take k)
            have h2 := List.length_take_le k l
            unfold biggestTo; omega)
          clear hcell
          generalize l.getD k 0 = x at *
          generalize biggestTo l k = L at *
          have hx := sz_le x
          obtain ⟨v0, hv0⟩ : ∃ v0 : Later u.val.heap.size u.val, v0.val = u.val := ⟨Later.self _, rfl⟩
          rw [← hv0]
          clear hv0
          rcases ieq ((sz x : Nat) : Int) ((mostTo l l.length : Nat) : Int) with ⟨g1, d1, _⟩ | ⟨g1, d1, _⟩
          · have G1 : Hid (sz x = mostTo l l.length) := Lib.hid (by omega)
            clear g1
            go_wp2_with (first | (go_at_call 37; refine (HS.out _).mono ?_; rintro e _ ⟨rfl, v1, rfl⟩) | (at_builtin; refine wpList_push (B := B) (W := W) (w := v1.val) (u.up v1).below (u.up v1).size rfl _ _ rfl (ints L) ad cp (x : Int) rfl (HO.out.keep v1.below) rfl (by have := HL.out; omega) ?_; intro u2 ad2 cp2 hown))
            go_roundw
            case rel =>
              refine ⟨k+1, ad2, cp2, u2, by omega, by go_num, ?_, rfl, ?_⟩
              · rw [HE.out, if_pos G1.out, ints_snoc]; simp
              · rw [HE.out, if_pos G1.out, ints_snoc]; exact hown
            case measure => simp [intOf]; omega
          · have G1 : Hid (¬ sz x = mostTo l l.length) := Lib.hid (by omega)
            clear g1
            go_wp2_with (first | (go_at_call 37; refine (HS.out _).mono ?_; rintro e _ ⟨rfl, v1, rfl⟩))
            go_roundw
            case rel =>
              refine ⟨k+1, ad, cp, u.up v1, by omega, by go_num, ?_, rfl, ?_⟩
              · rw [HE.out, if_neg G1.out]
              · rw [HE.out, if_neg G1.out]; exact HO.out.keep v1.below
            case measure => simp [intOf]; omega
        · have hke : Hid (k = l.length) := Lib.hid (by omega)
          go_wp2
          go_ret
          refine RetP.mk u ?_
          have := HO.out
          rw [hke.out] at this ⊢
          exact ⟨_, _, rfl, this⟩
theorem c_biggest {B : Nat} {W : World} (u : Later B W) (l : List Nat) (a : Option Addr) (cap : Nat) (h : IntsAt B W a (ints l)) (hlen : l.length ≤ 1048576) (h256 : ∀ s ∈ l, s < 256) :
    Calls Try.prog 38 #[.slice a (ints l).length cap] u.val (RetInts B W (ints (biggest l))) := (c_biggest_own u l a cap h hlen h256).mono fun _ _ h => h.ints

end Go.Proofs.Ytmcffbmhkbijlaa
