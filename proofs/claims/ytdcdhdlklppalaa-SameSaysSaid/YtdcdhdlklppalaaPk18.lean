
/-
  same.moved, same.ones, same.ranks.
  Structs of several cells in a block of their own; the results of functions that hand back a struct and an error.
-/
import Derived.Test.YtdcdhdlklppalaaPk12
import Derived.Test.YtdcdhdlklppalaaPk17
import Derived.Test.YtdcdhdlklppalaaPk13
import Derived.Deep.CutRange
import Derived.Test.YtdcdhdlklppalaaPk06
import Derived.Laws.ResultCell
namespace Go.Proofs.Ytdcdhdlklppalaa
open Go.RowKit
set_option linter.unusedVariables false

theorem imgTo_lt8 {q : List Nat} (s : Nat) {k : Nat} (h : ∀ i, i < k → q.getD i 0 < 8) : imgTo q s k < 256 := imgTo_lt (n := 8) s h
set_option maxRecDepth 100000 in
set_option maxHeartbeats 4000000 in
theorem c_moved {B : Nat} {W : World} (u : Later B W) (p : List Nat) (s : Nat) (hs : s < 256) (a : Option Addr) (cap : Nat) (h : IntsAt B W a (ints p)) (h8 : ∀ i, i < p.length → p.getD i 0 < 8) (hlen : p.length ≤ 8) :
    Calls Try.prog 56 #[.slice a p.length cap, .int .i64 s] u.val (Ret B W (.int .i64 (img p s))) := by
  have HI := Lib.hid h
  have H8 := Lib.hid h8
  have HLt : Hid (∀ k, k ≤ p.length → imgTo p s k < 256) := Lib.hid (fun k hk => imgTo_lt8 s (fun i hi => h8 i (by omega)))
  have HSt : Hid (∀ k, imgTo p s (k + 1) = if s.testBit k = true then imgTo p s k ||| bit (p.getD k 0) else imgTo p s k) := Lib.hid (fun k => rfl)
  have HE : Hid (img p s = imgTo p s p.length) := Lib.hid rfl
  have H0 : Hid (imgTo p s 0 = 0) := Lib.hid rfl
  rw [HE.out]
  clear h h8 HE
  generalize imgTo p s = T at *
  go_enter Try.func56, Try.ntmps56
  go_wp2
  go_loopw [5, 10] (fun o i wr => ∃ (k : Nat) (v : Later B W), k ≤ p.length ∧ o = .int .i64 (T k) ∧ i = .int .i64 k ∧ wr = v.val) (fun _ i _ => p.length - (intOf i).toNat)
  case atStart => exact ⟨0, u, by omega, by rw [H0.out]; rfl, rfl, rfl⟩
  case round =>
    clear u
    obtain ⟨k, v, hk, rfl, rfl, rfl⟩ := hrel
    by_cases hlt : k < p.length
    · obtain ⟨bb, off, rfl, hbB, hcell⟩ := HI.out.at (k := k) (by rw [ints_len]; exact hlt)
      have c0 : v.val.cell? ⟨bb, off + k, none⟩ = some (.int .i64 ((p.getD k 0 : Nat) : Int)) := by rw [← ints_getD]; exact hcell v k (by rw [ints_len]; exact hlt)
      have hx := H8.out k hlt
      have ht := HLt.out k hk
      have hst := HSt.out k
      have s1 := shr_and s k hs
      clear hcell
      generalize p.getD k 0 = x at *
      have bx := bit_cast x
      have hbx := bit_lt x hx
      have w1 := IntWalk.i64_in (bit x : Int) (by omega)
      have o1 := i64_or (T k) (bit x) (by omega) (by omega)
      have o0 := i64_or (T k) 0 (by omega) (by omega)
      rcases btf (s.testBit k) with g1 | g1
      · rw [g1] at s1 hst
        rw [show ((true.toNat : Nat) : Int) = 1 from rfl] at s1
        have HN : Hid (T (k + 1) = T k ||| bit x) := Lib.hid hst
        clear hst
        generalize T k = tk at *
        generalize tk ||| bit x = tn at *
        go_wp2
        go_roundw
        case rel => exact ⟨k+1, v, by omega, by rw [HN.out], by go_num, rfl⟩
        case measure => simp [intOf]; omega
      · rw [g1] at s1 hst
        rw [show ((false.toNat : Nat) : Int) = 0 from rfl] at s1
        rw [Nat.or_zero, show ((0 : Nat) : Int) = 0 from rfl] at o0
        have HN : Hid (T (k + 1) = T k) := Lib.hid hst
        clear hst o1
        generalize T k = tk at *
        go_wp2
        go_roundw
        case rel => exact ⟨k+1, v, by omega, by rw [HN.out], by go_num, rfl⟩
        case measure => simp [intOf]; omega
    · have hke : k = p.length := by omega
      subst hke
      go_wp2
      go_ret
      exact Ret.mk v rfl

set_option maxRecDepth 100000 in
set_option maxHeartbeats 4000000 in
theorem c_sameRanksB {B : Nat} {W : World} (u : Later B W) (m : Nat) (hm : m ≤ 8) (l : List Int) (a : Option Addr) (cap : Nat) (h : IntsAt B W a l) (hlen : l.length ≤ 4611686018427387904) (he : MatIs (m : Int) l 0) :
    Calls Try.prog 57 #[.agg #[.int .i64 m, .slice a l.length cap]] u.val (RetP B W (fun v w => ∃ g c, v = .slice (some ⟨g, 0, none⟩) (bit m) c ∧ ITab w g (bit m) (fun j => (rk (toN l) j : Int)) ∧ B ≤ g)) := by
  have T0 : Hid (Two (u.val.alloc (.cells #[.int .i64 m, .slice a l.length cap] 24)) u.val.heap.size 24 (.int .i64 m) (.slice a l.length cap)) := Lib.hid (Two.new _ _ _ _)
  have hrr : u.val.heap.size < (u.val.alloc (.cells #[.int .i64 m, .slice a l.length cap] 24)).heap.size := by simp
  have hI : IntsAt (u.val.alloc (.cells #[.int .i64 m, .slice a l.length cap] 24)).heap.size (u.val.alloc (.cells #[.int .i64 m, .slice a l.length cap] 24)) a l := h.to (u.alloc _)
  have HV : Hid (∀ v : Later (u.val.alloc (.cells #[.int .i64 m, .slice a l.length cap] 24)).heap.size (u.val.alloc (.cells #[.int .i64 m, .slice a l.length cap] 24)), ∃ w : Later B W, w.val = v.val) := Lib.hid (fun v => ⟨(u.alloc _).up v, rfl⟩)
  have q0 : ∀ w : Later (u.val.alloc (.cells #[.int .i64 m, .slice a l.length cap] 24)).heap.size (u.val.alloc (.cells #[.int .i64 m, .slice a l.length cap] 24)), w.val.cell? ⟨u.val.heap.size, 0, none⟩ = some (.int .i64 m) := fun w => (T0.out.keep w.below).c0
  have q1 : ∀ w : Later (u.val.alloc (.cells #[.int .i64 m, .slice a l.length cap] 24)).heap.size (u.val.alloc (.cells #[.int .i64 m, .slice a l.length cap] 24)), w.val.cell? ⟨u.val.heap.size, 1, none⟩ = some (.slice a l.length cap) := fun w => (T0.out.keep w.below).c1
  have p0 : (u.val.alloc (.cells #[.int .i64 m, .slice a l.length cap] 24)).cell? ⟨u.val.heap.size, 0, none⟩ = some (.int .i64 m) := T0.out.c0
  have p1 : (u.val.alloc (.cells #[.int .i64 m, .slice a l.length cap] 24)).cell? ⟨u.val.heap.size, 1, none⟩ = some (.slice a l.length cap) := T0.out.c1
  have hBM : B ≤ (u.val.alloc (.cells #[.int .i64 m, .slice a l.length cap] 24)).heap.size := by have := u.size; simp; omega
  have KR : Hid (Calls Try.prog 75 #[.agg #[.int .i64 m, .slice a l.length cap]] (u.val.alloc (.cells #[.int .i64 m, .slice a l.length cap] 24)) (RetP (u.val.alloc (.cells #[.int .i64 m, .slice a l.length cap] 24)).heap.size (u.val.alloc (.cells #[.int .i64 m, .slice a l.length cap] 24)) (fun v w => ∃ g c, v = .tuple #[.slice (some ⟨g, 0, none⟩) (bit m) c, .int .i64 0] ∧ ITab w g (bit m) (fun j => (rk (toN l) j : Int)) ∧ (u.val.alloc (.cells #[.int .i64 m, .slice a l.length cap] 24)).heap.size ≤ g))) := Lib.hid (c_axRanksB (Later.self (u.val.alloc (.cells #[.int .i64 m, .slice a l.length cap] 24))) m hm l a cap hI hlen he)
  clear h hI he
  go_enter Try.func57, Try.ntmps57
  go_wp2_with (first | (go_at_call 75; (with_reducible refine (KR.out).mono ?_); rintro e _ ⟨_, rfl, ⟨g, c, rfl, hT, hBg⟩, v1, rfl⟩))
  go_ret
  exact RetP.of (HV.out v1) ⟨g, c, rfl, hT, by omega⟩
theorem c_sameRanks {B : Nat} {W : World} (u : Later B W) (m : Nat) (hm : m ≤ 8) (l : List Int) (a : Option Addr) (cap : Nat) (h : IntsAt B W a l) (hlen : l.length ≤ 4611686018427387904) (he : MatIs (m : Int) l 0) :
    Calls Try.prog 57 #[.agg #[.int .i64 m, .slice a l.length cap]] u.val (RetP B W (fun v w => ∃ g c, v = .slice (some ⟨g, 0, none⟩) (bit m) c ∧ ITab w g (bit m) (fun j => (rk (toN l) j : Int)))) := (c_sameRanksB u m hm l a cap h hlen he).mono fun _ _ ⟨v, h1, ⟨g, c, h2, h3, _⟩, h4⟩ => ⟨v, h1, ⟨g, c, h2, h3⟩, h4⟩
end Go.Proofs.Ytdcdhdlklppalaa

namespace Go.Proofs.Ytdcdhdlklppalaa
open Go.RowKit
set_option linter.unusedVariables false

def RowL (w : World) (g : Nat) (t : TypeId) (vs : List Value) : Prop := w.heap[g]? = some (.cells vs.toArray t (0, 0))
namespace RowL
variable {w : World} {g : Nat} {t : TypeId} {vs : List Value}
theorem new (w : World) (t : TypeId) (vs : List Value) : RowL (w.alloc (.cells vs.toArray t)) w.heap.size t vs := heap_alloc_new w _
theorem cell (h : RowL w g t vs) {i : Nat} {x : Value} (hx : vs[i]? = some x) : w.cell? ⟨g, i, none⟩ = some x := by
  rw [cell_of_row w g i _ _ _ h]
  simpa using hx
theorem fz (h : RowL w g t vs) (i : Nat) : w.frozen? ⟨g, i, none⟩ = false := by
  have h' : w.heap[g]? = _ := h
  unfold World.frozen?
  rw [h']; simp
theorem lt (h : RowL w g t vs) : g < w.heap.size := by
  have h' : w.heap[g]? = _ := h
  exact (Array.getElem?_eq_some_iff.1 h').1
theorem keep_at {w' : World} {B : Nat} (h : RowL w g t vs) (hb : Below B w w') (hg : g < B) : RowL w' g t vs := by
  show w'.heap[g]? = _
  rw [hb.block g hg]; exact h
theorem keep {w' : World} (h : RowL w g t vs) (hb : Below w.heap.size w w') : RowL w' g t vs := h.keep_at hb h.lt
theorem set (h : RowL w g t vs) (i : Nat) (x : Value) : RowL (w.setCell ⟨g, i, none⟩ x) g t (vs.set i x) := by
  have h' : w.heap[g]? = _ := h
  simp only [RowL, World.setCell, Array.getElem?_modify, h']
  simp [List.setIfInBounds_toArray]
end RowL
theorem results_row {fn : Func} {p x : Tmp} {ty : TypeId} (h : fn.results = #[.cell p ty, .tmp x]) {P : Program} (tmps : Array Value) (w : World) (g : Nat) {t : TypeId} {vs : List Value} {fs : Array Field}
    (hp : tmps.getD p undef = .pointer (some ⟨g, 0, none⟩)) (hT : RowL w g t vs)
    (hu : P.underlying ty = some (.struct fs)) (hi : (P.info? ty).map (·.size) = some vs.length) :
    (results fn tmps).run P w = .ok (.tuple #[.agg vs.toArray, tmps.getD x undef]) w := by
  have hl := run_loadVar_row (P := P) w g t ty vs.toArray (0, 0) _ hT hu rfl (by simpa using hi)
  rw [results_cell_tmp h, hp]
  simp [asAddr, Result.andThen, hl]
theorem later_set {B : Nat} {W w : World} (h : ∃ u : Later B W, u.val = w) {g i : Nat} (hg : B ≤ g) (x : Value) : ∃ u : Later B W, u.val = w.setCell ⟨g, i, none⟩ x := by
  obtain ⟨u, rfl⟩ := h
  exact ⟨u.set ⟨g, i, none⟩ hg x, rfl⟩
/-- a call from a later world: its end is later too, and all that the world had stands -/
def ThreadP {B : Nat} {W : World} (v : Later B W) (Q : Value → World → Prop) : Ending → World → Prop := fun e w' => ∃ (v' : Later B W) (x : Value), e = .returned x ∧ w' = v'.val ∧ Q x v'.val ∧ Below v.val.heap.size v.val v'.val
theorem threadP {P : Program} {f : FuncId} {args : Array Value} {B : Nat} {W : World} {Q : Value → World → Prop} (v : Later B W) (h : Calls P f args v.val (RetP v.val.heap.size v.val Q)) : Calls P f args v.val (ThreadP v Q) := h.mono (by
  rintro e _ ⟨x, rfl, hq, y, rfl⟩
  exact ⟨v.up y, x, rfl, rfl, hq, y.below⟩)
theorem Own.le {B : Nat} {w : World} {ad : Option Addr} {cap : Nat} {xs : List Int} (h : Own B w ad cap xs) : xs.length ≤ cap := by
  rcases h.2 with ⟨e, hn⟩ | ⟨g, c, cur, e, h1, h2, h3, h4, h5, h6⟩
  · omega
  · simp only [Value.slice.injEq] at e
    omega

end Go.Proofs.Ytdcdhdlklppalaa
