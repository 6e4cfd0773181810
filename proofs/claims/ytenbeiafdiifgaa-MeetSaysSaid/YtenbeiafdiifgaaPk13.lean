
/-
  axioms.ranks, axioms.Ranks.
  Structs of several cells in a block of their own; the results of functions that hand back a struct and an error.
-/
import Derived.Test.YtenbeiafdiifgaaPk12
import Derived.Test.YtenbeiafdiifgaaPk09
import Derived.Laws.ResultCell
namespace Go.Proofs.Ytenbeiafdiifgaa
open Go.RowKit
set_option linter.unusedVariables false

set_option maxRecDepth 100000 in
set_option maxHeartbeats 8000000 in
theorem c_axRanks0B {B : Nat} {W : World} (u : Later B W) (m : Nat) (hm : m ≤ 8) (l : List Int) (a : Option Addr) (cap : Nat) (h : IntsAt B W a l) (hlen : l.length ≤ 4611686018427387904) (hf : isFam (m : Int) l) :
    Calls Try.prog 43 #[.agg #[.int .i64 m, .slice a l.length cap]] u.val (RetP B W (fun v w => ∃ g c, v = .slice (some ⟨g, 0, none⟩) (bit m) c ∧ ITab w g (bit m) (fun j => (rk (toN l) j : Int)) ∧ B ≤ g)) := by
  have hb := bit_le m hm
  have hbc := bit_cast m
  have hmk := mk_tab (bit m) (by omega)
  have T0 : Hid (Two (u.val.alloc (.cells #[.int .i64 m, .slice a l.length cap] 24)) u.val.heap.size 24 (.int .i64 m) (.slice a l.length cap)) := Lib.hid (Two.new _ _ _ _)
  have HI : Hid (IntsAt (u.val.alloc (.cells #[.int .i64 m, .slice a l.length cap] 24)).heap.size (u.val.alloc (.cells #[.int .i64 m, .slice a l.length cap] 24)) a l) := Lib.hid (h.to (u.alloc _))
  have hrr : u.val.heap.size < (u.val.alloc (.cells #[.int .i64 m, .slice a l.length cap] 24)).heap.size := by simp
  have HV : Hid (∀ v : Later (u.val.alloc (.cells #[.int .i64 m, .slice a l.length cap] 24)).heap.size (u.val.alloc (.cells #[.int .i64 m, .slice a l.length cap] 24)), ∃ w : Later B W, w.val = v.val) := Lib.hid (fun v => ⟨(u.alloc _).up v, rfl⟩)
  have HBg : Hid (B ≤ (u.val.alloc (.cells #[.int .i64 m, .slice a l.length cap] 24)).heap.size) := Lib.hid (by have := u.size; simp; omega)
  have HN : Hid (∀ i, i < l.length → ∃ s : Nat, l.getD i 0 = s ∧ s < 256 ∧ (toN l).getD i 0 = s) := Lib.hid (fun i hi => by
    have h1 := hf.2.2 i hi
    have h2 := all_le (m : Int) hf.2.1
    exact ⟨(l.getD i 0).toNat, by omega, by omega, toN_getD l i⟩)
  have HLn := Lib.hid (toN_len l)
  clear h hf
  generalize toN l = L at *
  go_enter Try.func43, Try.ntmps43
  go_upto_region 1 with fail
  generalize hr2 : u.val.heap.size = g0 at *
  generalize u.val.alloc (.cells #[.int .i64 m, .slice a l.length cap] 24) = W1 at *
  clear hr2 u
  have qa := T0.out.c0
  go_upto_region 2 with fail
  clear qa
  have HT : Hid (ITab (W1.alloc (.cells (madeCells #[Value.int .i64 0] (bit m)) 3)) W1.heap.size (bit m) (rkT L 0 0)) := Lib.hid ((ITab.made W1 (bit m)).congr (fun j _ => (rkT_start L j).symm))
  have hg1 : W1.heap.size ≤ W1.heap.size := Nat.le_refl _
  have HZ : Hid (∃ w : Later W1.heap.size W1, w.val = W1.alloc (.cells (madeCells #[Value.int .i64 0] (bit m)) 3)) := Lib.hid ⟨(Later.self W1).alloc _, rfl⟩
  generalize W1.alloc (.cells (madeCells #[Value.int .i64 0] (bit m)) 3) = W2 at *
  obtain ⟨v1, hv1⟩ := HZ.out
  subst hv1
  clear HZ hmk
  generalize hgg : W1.heap.size = g at *
  clear hgg
  go_wp2
  go_loopw [13] (fun i wr => ∃ (s : Nat) (v : Later g W1), s ≤ bit m ∧ i = .int .i64 s ∧ wr = v.val ∧ Hid (ITab v.val g (bit m) (rkT L s 0))) (fun i _ => bit m - (intOf i).toNat)
  case atStart => exact ⟨0, v1, by omega, rfl, rfl, HT⟩
  case round =>
    clear v1 HT
    obtain ⟨s, v1, hs, rfl, rfl, HT⟩ := hrel
    have qb := (T0.out.keep_at v1.below hrr).c1
    rcases nlt s (bit m) with ⟨hsb, e0⟩ | ⟨hsb, e0⟩
    · have e0' : decide ((s : Int) < (bit m : Int)) = true := decide_eq_true (by omega)
      go_wp2
      clear e0 e0' qb
      go_loopw [19] (fun i wr => ∃ (k : Nat) (v : Later g W1), k ≤ l.length ∧ i = .int .i64 k ∧ wr = v.val ∧ Hid (ITab v.val g (bit m) (rkT L s k))) (fun i _ => l.length - (intOf i).toNat)
      case atStart => exact ⟨0, v1, by omega, rfl, rfl, HT⟩
      case round =>
        clear v1 HT
        obtain ⟨k, v, hk, rfl, rfl, HT⟩ := hrel
        by_cases hlt2 : k < l.length
        · obtain ⟨x, hx, hx8, hxL⟩ := HN.out k hlt2
          obtain ⟨bb, off, rfl, hbB, hcell⟩ := HI.out.at hlt2
          have HTk : Hid (∀ w : Later v.val.heap.size v.val, ITab w.val g (bit m) (rkT L s k)) := Lib.hid (fun w => HT.out.keep w.below)
          have c0 : ∀ w : Later v.val.heap.size v.val, w.val.cell? ⟨bb, off + k, none⟩ = some (.int .i64 (x : Int)) := fun w => by rw [← hx]; exact hcell (v.up w) k hlt2
          have c0' : v.val.cell? ⟨bb, off + k, none⟩ = some (.int .i64 (x : Int)) := c0 (Later.self _)
          have c1 : ∀ w : Later v.val.heap.size v.val, w.val.cell? ⟨g, s, none⟩ = some (.int .i64 (rkTo L s k : Int)) := fun w => by
            have := (HTk.out w).cell hsb
            rwa [rkT_at] at this
          have c2 : ∀ w : Later v.val.heap.size v.val, w.val.frozen? ⟨g, s, none⟩ = false := fun w => (HTk.out w).frozen s
          have hand := i64_and s x (by omega) (by omega)
          have hsx : s &&& x < 256 := Nat.lt_of_le_of_lt Nat.and_le_right hx8
          have KS := Lib.hid (fun w : Later v.val.heap.size v.val => c_size_axioms w (s &&& x) hsx)
          have HSt : Hid (rkTo L s (k+1) = max (rkTo L s k) (sz (s &&& x))) := Lib.hid (by rw [← hxL]; rfl)
          have HTn : Hid (∀ (w : World) (z : Nat), ITab w g (bit m) (rkT L s k) → rkTo L s (k+1) = z → ITab (w.setCell ⟨g, s, none⟩ (.int .i64 (z : Int))) g (bit m) (rkT L s (k+1))) := Lib.hid (fun w z h hz => h.set s (z : Int) (fun j _ => by
            unfold rkT
            by_cases h1 : j < s
            · rw [if_pos h1, if_neg (by omega), if_pos h1]
            · by_cases h2 : j = s
              · rw [if_neg h1, if_pos h2, if_pos h2, hz]
              · rw [if_neg h1, if_neg h2, if_neg h2, if_neg h1, if_neg h2]))
          have hr8 := rkTo_le8 L s k
          have hz8 := sz_le (s &&& x)
          clear hx hxL hcell HT
          generalize rkTo L s k = p at *
          generalize sz (s &&& x) = z at *
          rcases ilt (p : Int) (z : Int) with ⟨g1, d1⟩ | ⟨g1, d1⟩ <;> rcases ilt (z : Int) (p : Int) with ⟨g2, d2⟩ | ⟨g2, d2⟩
          all_goals first | (exfalso; omega) | skip
          all_goals
            go_wp2
            refine wp_region_later_qtail (Later.self v.val) 12 (by kernel_rfl) (by kernel_rfl) (fun _ => ?_)
            simp only [List.take_succ_cons, List.take_zero, List.drop_succ_cons, List.drop_zero]
            repeat (first | go_big_quiet_step (((go_at_call 41; exact KS.out _))) | (refine wpQuiet_step (fun K hK => ?_); go_simp; refine ⟨_, fun _ => rfl, ?_⟩; refine hK _ ?_; clear hK K))
            refine wpQuiet_nil ?_
            intro v2
            go_wp2
            go_roundw
            case rel =>
              first
              | exact ⟨k+1, (v.up v2).set ⟨g, s, none⟩ (Nat.le_refl _) _, by omega, by go_num, rfl, Lib.hid (HTn.out _ p (HTk.out v2) (by rw [HSt.out]; omega))⟩
              | exact ⟨k+1, (v.up v2).set ⟨g, s, none⟩ (Nat.le_refl _) _, by omega, by go_num, rfl, Lib.hid (HTn.out _ z (HTk.out v2) (by rw [HSt.out]; omega))⟩
            case measure => simp [intOf]; omega
        · have hke : Hid (k = L.length) := Lib.hid (by have := HLn.out; omega)
          go_wp2
          go_roundw
          case rel => exact ⟨s+1, v, by omega, by go_num, rfl, Lib.hid (HT.out.congr (fun j _ => by rw [hke.out]; exact rkT_next L s j))⟩
          case measure => simp [intOf]; omega
    · have hse : Hid (s = bit m) := Lib.hid (by omega)
      have e0' : decide ((s : Int) < (bit m : Int)) = false := decide_eq_false (by omega)
      clear qb
      go_wp2
      go_ret
      refine RetP.of (HV.out v1) ⟨g, _, rfl, ?_, HBg.out⟩
      refine HT.out.congr (fun j hj => ?_)
      unfold rkT; rw [hse.out, if_pos hj]

theorem c_axRanks0 {B : Nat} {W : World} (u : Later B W) (m : Nat) (hm : m ≤ 8) (l : List Int) (a : Option Addr) (cap : Nat) (h : IntsAt B W a l) (hlen : l.length ≤ 4611686018427387904) (hf : isFam (m : Int) l) :
    Calls Try.prog 43 #[.agg #[.int .i64 m, .slice a l.length cap]] u.val (RetP B W (fun v w => ∃ g c, v = .slice (some ⟨g, 0, none⟩) (bit m) c ∧ ITab w g (bit m) (fun j => (rk (toN l) j : Int)))) := (c_axRanks0B u m hm l a cap h hlen hf).mono fun _ _ ⟨v, h1, ⟨g, c, h2, h3, _⟩, h4⟩ => ⟨v, h1, ⟨g, c, h2, h3⟩, h4⟩

set_option maxRecDepth 100000 in
set_option maxHeartbeats 4000000 in
theorem c_axRanksB {B : Nat} {W : World} (u : Later B W) (m : Nat) (hm : m ≤ 8) (l : List Int) (a : Option Addr) (cap : Nat) (h : IntsAt B W a l) (hlen : l.length ≤ 4611686018427387904) (he : MatIs (m : Int) l 0) :
    Calls Try.prog 34 #[.agg #[.int .i64 m, .slice a l.length cap]] u.val (RetP B W (fun v w => ∃ g c, v = .tuple #[.slice (some ⟨g, 0, none⟩) (bit m) c, .int .i64 0] ∧ ITab w g (bit m) (fun j => (rk (toN l) j : Int)) ∧ B ≤ g)) := by
  have T0 : Hid (Two (u.val.alloc (.cells #[.int .i64 m, .slice a l.length cap] 24)) u.val.heap.size 24 (.int .i64 m) (.slice a l.length cap)) := Lib.hid (Two.new _ _ _ _)
  have hI : IntsAt (u.val.alloc (.cells #[.int .i64 m, .slice a l.length cap] 24)).heap.size (u.val.alloc (.cells #[.int .i64 m, .slice a l.length cap] 24)) a l := h.to (u.alloc _)
  have HV : Hid (∀ v : Later (u.val.alloc (.cells #[.int .i64 m, .slice a l.length cap] 24)).heap.size (u.val.alloc (.cells #[.int .i64 m, .slice a l.length cap] 24)), ∃ w : Later B W, w.val = v.val) := Lib.hid (fun v => ⟨(u.alloc _).up v, rfl⟩)
  have q0 : ∀ w : Later (u.val.alloc (.cells #[.int .i64 m, .slice a l.length cap] 24)).heap.size (u.val.alloc (.cells #[.int .i64 m, .slice a l.length cap] 24)), w.val.cell? ⟨u.val.heap.size, 0, none⟩ = some (.int .i64 m) := fun w => (T0.out.keep w.below).c0
  have q1 : ∀ w : Later (u.val.alloc (.cells #[.int .i64 m, .slice a l.length cap] 24)).heap.size (u.val.alloc (.cells #[.int .i64 m, .slice a l.length cap] 24)), w.val.cell? ⟨u.val.heap.size, 1, none⟩ = some (.slice a l.length cap) := fun w => (T0.out.keep w.below).c1
  have p0 : (u.val.alloc (.cells #[.int .i64 m, .slice a l.length cap] 24)).cell? ⟨u.val.heap.size, 0, none⟩ = some (.int .i64 m) := T0.out.c0
  have p1 : (u.val.alloc (.cells #[.int .i64 m, .slice a l.length cap] 24)).cell? ⟨u.val.heap.size, 1, none⟩ = some (.slice a l.length cap) := T0.out.c1
  have KC : Hid (Calls Try.prog 33 #[.agg #[.int .i64 m, .slice a l.length cap]] (u.val.alloc (.cells #[.int .i64 m, .slice a l.length cap] 24)) (Ret (u.val.alloc (.cells #[.int .i64 m, .slice a l.length cap] 24)).heap.size (u.val.alloc (.cells #[.int .i64 m, .slice a l.length cap] 24)) (.int .i64 0))) := Lib.hid (c_axCheck (Later.self _) m l a cap 0 hI hlen he)
  have KR := Lib.hid (fun v : Later (u.val.alloc (.cells #[.int .i64 m, .slice a l.length cap] 24)).heap.size (u.val.alloc (.cells #[.int .i64 m, .slice a l.length cap] 24)) => c_axRanks0B v m hm l a cap hI hlen (Classical.byContradiction fun hk => by have := he.1 (fun h => hk h.1); omega))
  clear h hI he T0
  go_enter Try.func34, Try.ntmps34
  go_wp2_with (first | (go_at_call 33; ((with_reducible refine (KC.out).mono ?_); rintro e _ ⟨rfl, v1, rfl⟩)) | (go_at_call 43; ((with_reducible refine (KR.out _).mono ?_); rintro e _ ⟨_, rfl, ⟨g, c, rfl, HT, hBg⟩, v2, rfl⟩)))
  go_ret2
  exact RetP.of (HV.out v2) ⟨g, c, rfl, HT, by have := u.size; simp at hBg; omega⟩
theorem c_axRanks {B : Nat} {W : World} (u : Later B W) (m : Nat) (hm : m ≤ 8) (l : List Int) (a : Option Addr) (cap : Nat) (h : IntsAt B W a l) (hlen : l.length ≤ 4611686018427387904) (he : MatIs (m : Int) l 0) :
    Calls Try.prog 34 #[.agg #[.int .i64 m, .slice a l.length cap]] u.val (RetP B W (fun v w => ∃ g c, v = .tuple #[.slice (some ⟨g, 0, none⟩) (bit m) c, .int .i64 0] ∧ ITab w g (bit m) (fun j => (rk (toN l) j : Int)))) := (c_axRanksB u m hm l a cap h hlen he).mono fun _ _ ⟨v, h1, ⟨g, c, h2, h3, _⟩, h4⟩ => ⟨v, h1, ⟨g, c, h2, h3⟩, h4⟩

end Go.Proofs.Ytenbeiafdiifgaa

namespace Go.Proofs.Ytenbeiafdiifgaa
open Go.RowKit
set_option linter.unusedVariables false

def RowL (w : World) (g : Nat) (t : TypeId) (vs : List Value) : Prop := w.heap[g]? = some (.cells vs.toArray t (0, 0))
namespace RowL
variable {w : World} {g : Nat} {t : TypeId} {vs : List Value}
theorem new (w : World) (t : TypeId) (vs : List Value) : RowL (w.alloc (.cells vs.toArray t)) w.heap.size t vs := heap_alloc_new w _
theorem cell (h : RowL w g t vs) {i : Nat} {x : Value} (hx : vs[i]? = some x) : w.cell? ⟨g, i, none⟩ = some x := by
  rw [cell_of_row w g i _ _ _ h]
  simpa using hx
theorem fz (h : RowL w g t vs) (i : Nat) : w.frozen? ⟨g, i, none⟩ = false := by
  have h' : w.heap[g]? = _ := h
  unfold World.frozen?
  rw [h']; simp
theorem lt (h : RowL w g t vs) : g < w.heap.size := by
  have h' : w.heap[g]? = _ := h
  exact (Array.getElem?_eq_some_iff.1 h').1
theorem keep_at {w' : World} {B : Nat} (h : RowL w g t vs) (hb : Below B w w') (hg : g < B) : RowL w' g t vs := by
  show w'.heap[g]? = _
  rw [hb.block g hg]; exact h
theorem keep {w' : World} (h : RowL w g t vs) (hb : Below w.heap.size w w') : RowL w' g t vs := h.keep_at hb h.lt
theorem set (h : RowL w g t vs) (i : Nat) (x : Value) : RowL (w.setCell ⟨g, i, none⟩ x) g t (vs.set i x) := by
  have h' : w.heap[g]? = _ := h
  simp only [RowL, World.setCell, Array.getElem?_modify, h']
  simp [List.setIfInBounds_toArray]
end RowL
theorem results_row {fn : Func} {p x : Tmp} {ty : TypeId} (h : fn.results = #[.cell p ty, .tmp x]) {P : Program} (tmps : Array Value) (w : World) (g : Nat) {t : TypeId} {vs : List Value} {fs : Array Field}
    (hp : tmps.getD p undef = .pointer (some ⟨g, 0, none⟩)) (hT : RowL w g t vs)
    (hu : P.underlying ty = some (.struct fs)) (hi : (P.info? ty).map (·.size) = some vs.length) :
    (results fn tmps).run P w = .ok (.tuple #[.agg vs.toArray, tmps.getD x undef]) w := by
  have hl := run_loadVar_row (P := P) w g t ty vs.toArray (0, 0) _ hT hu rfl (by simpa using hi)
  rw [results_cell_tmp h, hp]
  simp [asAddr, Result.andThen, hl]
theorem later_set {B : Nat} {W w : World} (h : ∃ u : Later B W, u.val = w) {g i : Nat} (hg : B ≤ g) (x : Value) : ∃ u : Later B W, u.val = w.setCell ⟨g, i, none⟩ x := by
  obtain ⟨u, rfl⟩ := h
  exact ⟨u.set ⟨g, i, none⟩ hg x, rfl⟩
/-- a call from a later world: its end is later too, and all that the world had stands -/
def ThreadP {B : Nat} {W : World} (v : Later B W) (Q : Value → World → Prop) : Ending → World → Prop := fun e w' => ∃ (v' : Later B W) (x : Value), e = .returned x ∧ w' = v'.val ∧ Q x v'.val ∧ Below v.val.heap.size v.val v'.val
theorem threadP {P : Program} {f : FuncId} {args : Array Value} {B : Nat} {W : World} {Q : Value → World → Prop} (v : Later B W) (h : Calls P f args v.val (RetP v.val.heap.size v.val Q)) : Calls P f args v.val (ThreadP v Q) := h.mono (by
  rintro e _ ⟨x, rfl, hq, y, rfl⟩
  exact ⟨v.up y, x, rfl, rfl, hq, y.below⟩)
theorem Own.le {B : Nat} {w : World} {ad : Option Addr} {cap : Nat} {xs : List Int} (h : Own B w ad cap xs) : xs.length ≤ cap := by
  rcases h.2 with ⟨e, hn⟩ | ⟨g, c, cur, e, h1, h2, h3, h4, h5, h6⟩
  · omega
  · simp only [Value.slice.injEq] at e
    omega

end Go.Proofs.Ytenbeiafdiifgaa
