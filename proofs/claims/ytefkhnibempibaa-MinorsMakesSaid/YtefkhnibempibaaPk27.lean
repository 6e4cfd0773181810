
/-
  axioms.ranks, axioms.Ranks.
  axioms.family and its kinds: Independents, Circuits, Flats, Hyperplanes.
-/
import Derived.Test.YtefkhnibempibaaPk10
import Derived.Deep.CutRange
import Derived.Deep.CutBlock
import Derived.Test.YtefkhnibempibaaPk14
import Derived.Test.YtefkhnibempibaaPk04
namespace Go.Proofs.Ytefkhnibempibaa
open Go.RowKit
set_option linter.unusedVariables false

set_option maxRecDepth 100000 in
set_option maxHeartbeats 8000000 in
theorem c_axRanks0B {B : Nat} {W : World} (u : Later B W) (m : Nat) (hm : m ≤ 8) (l : List Int) (a : Option Addr) (cap : Nat) (h : IntsAt B W a l) (hlen : l.length ≤ 4611686018427387904) (hf : isFam (m : Int) l) :
    Calls Try.prog 71 #[.agg #[.int .i64 m, .slice a l.length cap]] u.val (RetP B W (fun v w => ∃ g c, v = .slice (some ⟨g, 0, none⟩) (bit m) c ∧ ITab w g (bit m) (fun j => (rk (toN l) j : Int)) ∧ B ≤ g)) := by
  have hb := bit_le m hm
  have hbc := bit_cast m
  have hmk := mk_tab (bit m) (by omega)
  have T0 : Hid (Two (u.val.alloc (.cells #[.int .i64 m, .slice a l.length cap] 24)) u.val.heap.size 24 (.int .i64 m) (.slice a l.length cap)) := Lib.hid (Two.new _ _ _ _)
  have HI : Hid (IntsAt (u.val.alloc (.cells #[.int .i64 m, .slice a l.length cap] 24)).heap.size (u.val.alloc (.cells #[.int .i64 m, .slice a l.length cap] 24)) a l) := Lib.hid (h.to (u.alloc _))
  have hrr : u.val.heap.size < (u.val.alloc (.cells #[.int .i64 m, .slice a l.length cap] 24)).heap.size := by simp
  have HV : Hid (∀ v : Later (u.val.alloc (.cells #[.int .i64 m, .slice a l.length cap] 24)).heap.size (u.val.alloc (.cells #[.int .i64 m, .slice a l.length cap] 24)), ∃ w : Later B W, w.val = v.val) := Lib.hid (fun v => ⟨(u.alloc _).up v, rfl⟩)
  have HBg : Hid (B ≤ (u.val.alloc (.cells #[.int .i64 m, .slice a l.length cap] 24)).heap.size) := Lib.hid (by have := u.size; simp; omega)
  have HN : Hid (∀ i, i < l.length → ∃ s : Nat, l.getD i 0 = s ∧ s < 256 ∧ (toN l).getD i 0 = s) := Lib.hid (fun i hi => by
    have h1 := hf.2.2 i hi
    have h2 := all_le (m : Int) hf.2.1
    exact ⟨(l.getD i 0).toNat, by omega, by omega, toN_getD l i⟩)
  have HLn := Lib.hid (toN_len l)
  clear h hf
  generalize toN l = L at *
  go_enter Try.func71, Try.ntmps71
  go_upto_region 1 with fail
  generalize hr2 : u.val.heap.size = g0 at *
  generalize u.val.alloc (.cells #[.int .i64 m, .slice a l.length cap] 24) = W1 at *
  clear hr2 u
  have qa := T0.out.c0
  go_upto_region 2 with fail
  clear qa
  have HT : Hid (ITab (W1.alloc (.cells (madeCells #[Value.int .i64 0] (bit m)) 3)) W1.heap.size (bit m) (rkT L 0 0)) := Lib.hid ((ITab.made W1 (bit m)).congr (fun j _ => (rkT_start L j).symm))
  have hg1 : W1.heap.size ≤ W1.heap.size := Nat.le_refl _
  have HZ : Hid (∃ w : Later W1.heap.size W1, w.val = W1.alloc (.cells (madeCells #[Value.int .i64 0] (bit m)) 3)) := Lib.hid ⟨(Later.self W1).alloc _, rfl⟩
  generalize W1.alloc (.cells (madeCells #[Value.int .i64 0] (bit m)) 3) = W2 at *
  obtain ⟨v1, hv1⟩ := HZ.out
  subst hv1
  clear HZ hmk
  generalize hgg : W1.heap.size = g at *
  clear hgg
  go_wp2
  go_loopw [13] (fun i wr => ∃ (s : Nat) (v : Later g W1), s ≤ bit m ∧ i = .int .i64 s ∧ wr = v.val ∧ Hid (ITab v.val g (bit m) (rkT L s 0))) (fun i _ => bit m - (intOf i).toNat)
  case atStart => exact ⟨0, v1, by omega, rfl, rfl, HT⟩
  case round =>
    clear v1 HT
    obtain ⟨s, v1, hs, rfl, rfl, HT⟩ := hrel
    have qb := (T0.out.keep_at v1.below hrr).c1
    rcases nlt s (bit m) with ⟨hsb, e0⟩ | ⟨hsb, e0⟩
    · have e0' : decide ((s : Int) < (bit m : Int)) = true := decide_eq_true (by omega)
      go_wp2
      clear e0 e0' qb
      go_loopw [19] (fun i wr => ∃ (k : Nat) (v : Later g W1), k ≤ l.length ∧ i = .int .i64 k ∧ wr = v.val ∧ Hid (ITab v.val g (bit m) (rkT L s k))) (fun i _ => l.length - (intOf i).toNat)
      case atStart => exact ⟨0, v1, by omega, rfl, rfl, HT⟩
      case round =>
        clear v1 HT
        obtain ⟨k, v, hk, rfl, rfl, HT⟩ := hrel
        by_cases hlt2 : k < l.length
        · obtain ⟨x, hx, hx8, hxL⟩ := HN.out k hlt2
          obtain ⟨bb, off, rfl, hbB, hcell⟩ := HI.out.at hlt2
          have HTk : Hid (∀ w : Later v.val.heap.size v.val, ITab w.val g (bit m) (rkT L s k)) := Lib.hid (fun w => HT.out.keep w.below)
          have c0 : ∀ w : Later v.val.heap.size v.val, w.val.cell? ⟨bb, off + k, none⟩ = some (.int .i64 (x : Int)) := fun w => by rw [← hx]; exact hcell (v.up w) k hlt2
          have c0' : v.val.cell? ⟨bb, off + k, none⟩ = some (.int .i64 (x : Int)) := c0 (Later.self _)
          have c1 : ∀ w : Later v.val.heap.size v.val, w.val.cell? ⟨g, s, none⟩ = some (.int .i64 (rkTo L s k : Int)) := fun w => by
            have := (HTk.out w).cell hsb
            rwa [rkT_at] at this
          have c2 : ∀ w : Later v.val.heap.size v.val, w.val.frozen? ⟨g, s, none⟩ = false := fun w => (HTk.out w).frozen s
          have hand := i64_and s x (by omega) (by omega)
          have hsx : s &&& x < 256 := Nat.lt_of_le_of_lt Nat.and_le_right hx8
          have KS := Lib.hid (fun w : Later v.val.heap.size v.val => c_size_axioms w (s &&& x) hsx)
          have HSt : Hid (rkTo L s (k+1) = max (rkTo L s k) (sz (s &&& x))) := Lib.hid (by rw [← hxL]; rfl)
          have HTn : Hid (∀ (w : World) (z : Nat), ITab w g (bit m) (rkT L s k) → rkTo L s (k+1) = z → ITab (w.setCell ⟨g, s, none⟩ (.int .i64 (z : Int))) g (bit m) (rkT L s (k+1))) := Lib.hid (fun w z h hz => h.set s (z : Int) (fun j _ => by
            unfold rkT
            by_cases h1 : j < s
            · rw [if_pos h1, if_neg (by omega), if_pos h1]
            · by_cases h2 : j = s
              · rw [if_neg h1, if_pos h2, if_pos h2, hz]
              · rw [if_neg h1, if_neg h2, if_neg h2, if_neg h1, if_neg h2]))
          have hr8 := rkTo_le8 L s k
          have hz8 := sz_le (s &&& x)
          clear hx hxL hcell HT
          generalize rkTo L s k = p at *
          generalize sz (s &&& x) = z at *
          rcases ilt (p : Int) (z : Int) with ⟨g1, d1⟩ | ⟨g1, d1⟩ <;> rcases ilt (z : Int) (p : Int) with ⟨g2, d2⟩ | ⟨g2, d2⟩
          all_goals first | (exfalso; omega) | skip
          all_goals
            go_wp2
            refine wp_region_later_qtail (Later.self v.val) 12 (by kernel_rfl) (by kernel_rfl) (fun _ => ?_)
            simp only [List.take_succ_cons, List.take_zero, List.drop_succ_cons, List.drop_zero]
            repeat (first | go_big_quiet_step (((go_at_call 64; exact KS.out _))) | (refine wpQuiet_step (fun K hK => ?_); go_simp; refine ⟨_, fun _ => rfl, ?_⟩; refine hK _ ?_; clear hK K))
            refine wpQuiet_nil ?_
            intro v2
            go_wp2
            go_roundw
            case rel =>
              first
              | exact ⟨k+1, (v.up v2).set ⟨g, s, none⟩ (Nat.le_refl _) _, by omega, by go_num, rfl, Lib.hid (HTn.out _ p (HTk.out v2) (by rw [HSt.out]; omega))⟩
              | exact ⟨k+1, (v.up v2).set ⟨g, s, none⟩ (Nat.le_refl _) _, by omega, by go_num, rfl, Lib.hid (HTn.out _ z (HTk.out v2) (by rw [HSt.out]; omega))⟩
            case measure => simp [intOf]; omega
        · have hke : Hid (k = L.length) := Lib.hid (by have := HLn.out; omega)
          go_wp2
          go_roundw
          case rel => exact ⟨s+1, v, by omega, by go_num, rfl, Lib.hid (HT.out.congr (fun j _ => by rw [hke.out]; exact rkT_next L s j))⟩
          case measure => simp [intOf]; omega
    · have hse : Hid (s = bit m) := Lib.hid (by omega)
      have e0' : decide ((s : Int) < (bit m : Int)) = false := decide_eq_false (by omega)
      clear qb
      go_wp2
      go_ret
      refine RetP.of (HV.out v1) ⟨g, _, rfl, ?_, HBg.out⟩
      refine HT.out.congr (fun j hj => ?_)
      unfold rkT; rw [hse.out, if_pos hj]

theorem c_axRanks0 {B : Nat} {W : World} (u : Later B W) (m : Nat) (hm : m ≤ 8) (l : List Int) (a : Option Addr) (cap : Nat) (h : IntsAt B W a l) (hlen : l.length ≤ 4611686018427387904) (hf : isFam (m : Int) l) :
    Calls Try.prog 71 #[.agg #[.int .i64 m, .slice a l.length cap]] u.val (RetP B W (fun v w => ∃ g c, v = .slice (some ⟨g, 0, none⟩) (bit m) c ∧ ITab w g (bit m) (fun j => (rk (toN l) j : Int)))) := (c_axRanks0B u m hm l a cap h hlen hf).mono fun _ _ ⟨v, h1, ⟨g, c, h2, h3, _⟩, h4⟩ => ⟨v, h1, ⟨g, c, h2, h3⟩, h4⟩

set_option maxRecDepth 100000 in
set_option maxHeartbeats 4000000 in
theorem c_axRanksB {B : Nat} {W : World} (u : Later B W) (m : Nat) (hm : m ≤ 8) (l : List Int) (a : Option Addr) (cap : Nat) (h : IntsAt B W a l) (hlen : l.length ≤ 4611686018427387904) (he : MatIs (m : Int) l 0) :
    Calls Try.prog 50 #[.agg #[.int .i64 m, .slice a l.length cap]] u.val (RetP B W (fun v w => ∃ g c, v = .tuple #[.slice (some ⟨g, 0, none⟩) (bit m) c, .int .i64 0] ∧ ITab w g (bit m) (fun j => (rk (toN l) j : Int)) ∧ B ≤ g)) := by
  have T0 : Hid (Two (u.val.alloc (.cells #[.int .i64 m, .slice a l.length cap] 24)) u.val.heap.size 24 (.int .i64 m) (.slice a l.length cap)) := Lib.hid (Two.new _ _ _ _)
  have hI : IntsAt (u.val.alloc (.cells #[.int .i64 m, .slice a l.length cap] 24)).heap.size (u.val.alloc (.cells #[.int .i64 m, .slice a l.length cap] 24)) a l := h.to (u.alloc _)
  have HV : Hid (∀ v : Later (u.val.alloc (.cells #[.int .i64 m, .slice a l.length cap] 24)).heap.size (u.val.alloc (.cells #[.int .i64 m, .slice a l.length cap] 24)), ∃ w : Later B W, w.val = v.val) := Lib.hid (fun v => ⟨(u.alloc _).up v, rfl⟩)
  have q0 : ∀ w : Later (u.val.alloc (.cells #[.int .i64 m, .slice a l.length cap] 24)).heap.size (u.val.alloc (.cells #[.int .i64 m, .slice a l.length cap] 24)), w.val.cell? ⟨u.val.heap.size, 0, none⟩ = some (.int .i64 m) := fun w => (T0.out.keep w.below).c0
  have q1 : ∀ w : Later (u.val.alloc (.cells #[.int .i64 m, .slice a l.length cap] 24)).heap.size (u.val.alloc (.cells #[.int .i64 m, .slice a l.length cap] 24)), w.val.cell? ⟨u.val.heap.size, 1, none⟩ = some (.slice a l.length cap) := fun w => (T0.out.keep w.below).c1
  have p0 : (u.val.alloc (.cells #[.int .i64 m, .slice a l.length cap] 24)).cell? ⟨u.val.heap.size, 0, none⟩ = some (.int .i64 m) := T0.out.c0
  have p1 : (u.val.alloc (.cells #[.int .i64 m, .slice a l.length cap] 24)).cell? ⟨u.val.heap.size, 1, none⟩ = some (.slice a l.length cap) := T0.out.c1
  have KC : Hid (Calls Try.prog 44 #[.agg #[.int .i64 m, .slice a l.length cap]] (u.val.alloc (.cells #[.int .i64 m, .slice a l.length cap] 24)) (Ret (u.val.alloc (.cells #[.int .i64 m, .slice a l.length cap] 24)).heap.size (u.val.alloc (.cells #[.int .i64 m, .slice a l.length cap] 24)) (.int .i64 0))) := Lib.hid (c_axCheck (Later.self _) m l a cap 0 hI hlen he)
  have KR := Lib.hid (fun v : Later (u.val.alloc (.cells #[.int .i64 m, .slice a l.length cap] 24)).heap.size (u.val.alloc (.cells #[.int .i64 m, .slice a l.length cap] 24)) => c_axRanks0B v m hm l a cap hI hlen (Classical.byContradiction fun hk => by have := he.1 (fun h => hk h.1); omega))
  clear h hI he T0
  go_enter Try.func50, Try.ntmps50
  go_wp2_with (first | (go_at_call 44; ((with_reducible refine (KC.out).mono ?_); rintro e _ ⟨rfl, v1, rfl⟩)) | (go_at_call 71; ((with_reducible refine (KR.out _).mono ?_); rintro e _ ⟨_, rfl, ⟨g, c, rfl, HT, hBg⟩, v2, rfl⟩)))
  go_ret2
  exact RetP.of (HV.out v2) ⟨g, c, rfl, HT, by have := u.size; simp at hBg; omega⟩
theorem c_axRanks {B : Nat} {W : World} (u : Later B W) (m : Nat) (hm : m ≤ 8) (l : List Int) (a : Option Addr) (cap : Nat) (h : IntsAt B W a l) (hlen : l.length ≤ 4611686018427387904) (he : MatIs (m : Int) l 0) :
    Calls Try.prog 50 #[.agg #[.int .i64 m, .slice a l.length cap]] u.val (RetP B W (fun v w => ∃ g c, v = .tuple #[.slice (some ⟨g, 0, none⟩) (bit m) c, .int .i64 0] ∧ ITab w g (bit m) (fun j => (rk (toN l) j : Int)))) := (c_axRanksB u m hm l a cap h hlen he).mono fun _ _ ⟨v, h1, ⟨g, c, h2, h3, _⟩, h4⟩ => ⟨v, h1, ⟨g, c, h2, h3⟩, h4⟩

end Go.Proofs.Ytefkhnibempibaa

namespace Go.Proofs.Ytefkhnibempibaa
open Go.RowKit
set_option linter.unusedVariables false

/-- a result: a list of the call's own, and an error -/
def ListO (B : Nat) (xs : List Int) (e : Int) (v : Value) (w : World) : Prop := ∃ ad cp, v = .tuple #[.slice ad xs.length cp, .int .i64 e] ∧ Own B w ad cp xs
theorem ListO.e {B : Nat} {xs : List Int} {e : Int} {v : Value} {w : World} (h : ListO B xs e v w) : ListE xs e v w := by
  obtain ⟨ad, cp, rfl, ho⟩ := h
  exact ⟨_, rfl, Reads.of_own ho⟩
theorem listE_of {B : Nat} {W : World} {P : Program} {f : FuncId} {args : Array Value} {w : World} {xs : List Int} {e : Int} {B' : Nat} (h : Calls P f args w (RetP B W (ListO B' xs e))) : Calls P f args w (RetP B W (ListE xs e)) := h.mono fun _ _ ⟨v, h1, h2, h3⟩ => ⟨v, h1, h2.e, h3⟩

/-- a function value that tells of a table of ranks and a set whether the set is of a kind -/
def TellsR (B : Nat) (W : World) (m : Nat) (L : List Nat) (k : FuncId) (caps : Array Value) (p : Nat → Bool) : Prop :=
  ∀ (x : Later B W) (g c : Nat), g < x.val.heap.size → ITab x.val g (bit m) (fun j => (rk L j : Int)) → ∀ (v : Later x.val.heap.size x.val) (s : Nat), s < bit m → Calls Try.prog k (#[.slice (some ⟨g, 0, none⟩) (bit m) c, .int .i64 (s : Int)] ++ caps) v.val (Ret x.val.heap.size x.val (.bool (p s)))

set_option maxRecDepth 100000 in
set_option maxHeartbeats 8000000 in
theorem c_axFamilyO {B : Nat} {W : World} (u : Later B W) (m : Nat) (hm : m ≤ 8) (l : List Int) (a : Option Addr) (cap : Nat) (h : IntsAt B W a l) (hlen : l.length ≤ 4611686018427387904) (he : MatIs (m : Int) l 0) (k : FuncId) (caps : Array Value) (p : Nat → Bool) (hpl : Plain k) (hk : TellsR B W m (toN l) k caps p) :
    Calls Try.prog 67 #[.agg #[.int .i64 m, .slice a l.length cap], .func (.func k) #[] caps] u.val (RetP B W (ListO B (ints (those m p)) 0)) := by
  have hb := bit_le m hm
  have T0 : Hid (Two (u.val.alloc (.cells #[.int .i64 m, .slice a l.length cap] 24)) u.val.heap.size 24 (.int .i64 m) (.slice a l.length cap)) := Lib.hid (Two.new _ _ _ _)
  have hI : IntsAt (u.val.alloc (.cells #[.int .i64 m, .slice a l.length cap] 24)).heap.size (u.val.alloc (.cells #[.int .i64 m, .slice a l.length cap] 24)) a l := h.to (u.alloc _)
  have HV : Hid (∀ v : Later (u.val.alloc (.cells #[.int .i64 m, .slice a l.length cap] 24)).heap.size (u.val.alloc (.cells #[.int .i64 m, .slice a l.length cap] 24)), ∃ w : Later B W, w.val = v.val) := Lib.hid (fun v => ⟨(u.alloc _).up v, rfl⟩)
  have HK : Hid (TellsR (u.val.alloc (.cells #[.int .i64 m, .slice a l.length cap] 24)).heap.size (u.val.alloc (.cells #[.int .i64 m, .slice a l.length cap] 24)) m (toN l) k caps p) := Lib.hid (fun x => hk ((u.alloc _).up x))
  have q0 : ∀ w : Later (u.val.alloc (.cells #[.int .i64 m, .slice a l.length cap] 24)).heap.size (u.val.alloc (.cells #[.int .i64 m, .slice a l.length cap] 24)), w.val.cell? ⟨u.val.heap.size, 0, none⟩ = some (.int .i64 m) := fun w => (T0.out.keep w.below).c0
  have q1 : ∀ w : Later (u.val.alloc (.cells #[.int .i64 m, .slice a l.length cap] 24)).heap.size (u.val.alloc (.cells #[.int .i64 m, .slice a l.length cap] 24)), w.val.cell? ⟨u.val.heap.size, 1, none⟩ = some (.slice a l.length cap) := fun w => (T0.out.keep w.below).c1
  have p0 : (u.val.alloc (.cells #[.int .i64 m, .slice a l.length cap] 24)).cell? ⟨u.val.heap.size, 0, none⟩ = some (.int .i64 m) := T0.out.c0
  have p1 : (u.val.alloc (.cells #[.int .i64 m, .slice a l.length cap] 24)).cell? ⟨u.val.heap.size, 1, none⟩ = some (.slice a l.length cap) := T0.out.c1
  have hfam : isFam (m : Int) l := Classical.byContradiction fun hk => by have := he.1 (fun h => hk h.1); omega
  have KC : Hid (Calls Try.prog 44 #[.agg #[.int .i64 m, .slice a l.length cap]] (u.val.alloc (.cells #[.int .i64 m, .slice a l.length cap] 24)) (Ret (u.val.alloc (.cells #[.int .i64 m, .slice a l.length cap] 24)).heap.size (u.val.alloc (.cells #[.int .i64 m, .slice a l.length cap] 24)) (.int .i64 0))) := Lib.hid (c_axCheck (Later.self _) m l a cap 0 hI hlen he)
  have KR := Lib.hid (fun v : Later (u.val.alloc (.cells #[.int .i64 m, .slice a l.length cap] 24)).heap.size (u.val.alloc (.cells #[.int .i64 m, .slice a l.length cap] 24)) => c_axRanks0 v m hm l a cap hI hlen hfam)
  have hp1 : ∀ (args : Array Value) (w : World), (callFunc k args).run Try.prog w = .ok (.enter k args) w := hpl
  clear h hk hI he T0 hfam
  go_enter Try.func67, Try.ntmps67
  go_wp2_with (first | (go_at_call 44; ((with_reducible refine (KC.out).mono ?_); rintro e _ ⟨rfl, v1, rfl⟩)) | (go_at_call 71; ((with_reducible refine (KR.out _).mono ?_); rintro e _ ⟨_, rfl, ⟨g, c, rfl, hT⟩, v1, rfl⟩; have HT := Lib.hid hT; clear hT)))
  have hgl := HT.out.lt
  have HK2 : Hid (TellsR v1.val.heap.size v1.val m (toN l) k caps p) := Lib.hid (fun x => HK.out (v1.up x))
  have HVB : Hid (∀ v : Later v1.val.heap.size v1.val, ∃ w : Later B W, w.val = v.val) := Lib.hid (fun v => HV.out (v1.up v))
  have HBV : Hid (B ≤ v1.val.heap.size) := Lib.hid (by obtain ⟨w, hw⟩ := HV.out v1; rw [← hw]; exact w.size)
  clear KC KR q0 q1 p0 p1 HV HK
  generalize toN l = L at *
  obtain ⟨y, hy⟩ : ∃ y : Later v1.val.heap.size v1.val, y.val = v1.val := ⟨Later.self _, rfl⟩
  rw [← hy]
  clear hy
  generalize v1.val = V at *
  go_loopw [8, 19] (fun o i wr => ∃ (s : Nat) (ad : Option Addr) (cp : Nat) (v : Later V.heap.size V), s ≤ bit m ∧ i = .int .i64 s ∧ o = .slice ad (ints (thoseTo p s)).length cp ∧ wr = v.val ∧ Hid (Own V.heap.size v.val ad cp (ints (thoseTo p s)))) (fun _ i _ => bit m - (intOf i).toNat)
  case atStart => exact ⟨0, none, 0, y, by omega, rfl, rfl, rfl, Lib.hid (Own.nil _ _)⟩
  case round =>
    obtain ⟨s, ad, cp, v, hs, rfl, rfl, rfl, HO⟩ := hrel
    have HE := Lib.hid (thoseTo_step p s)
    have HL : Hid ((ints (thoseTo p s)).length ≤ 256) := Lib.hid (by rw [ints_len]; have := thoseTo_len p s; omega)
    rcases nlt s (bit m) with ⟨hlt, d0⟩ | ⟨hlt, d0⟩
    · have d0' : decide ((s : Int) < (bit m : Int)) = true := decide_eq_true (by omega)
      have HK1 := Lib.hid (HK2.out v g c (by have := v.size; omega) (HT.out.keep v.below) (Later.self v.val) s hlt)
      have HK1' : Hid (Calls Try.prog k (#[.slice (some ⟨g, 0, none⟩) (bit m) c, .int .i64 (s : Int)] ++ caps) v.val (Ret v.val.heap.size v.val (.bool (p s)))) := HK1
      generalize thoseTo p s = Lt at *
      clear HK1
      rcases btf (p s) with g1 | g1
      · rw [g1] at HK1'
        have G1 := Lib.hid g1; clear g1
        go_wp2_with (first | (refine (HK1'.out).mono ?_; rintro e _ ⟨rfl, v2, rfl⟩) | (at_builtin; refine wpList_push (B := V.heap.size) (W := V) (w := v2.val) (v.up v2).below (v.up v2).size rfl _ _ rfl (ints Lt) ad cp (s : Int) rfl (HO.out.keep v2.below) rfl (by have := HL.out; omega) ?_; intro u2 ad2 cp2 hown))
        go_roundw
        case rel =>
          refine ⟨s+1, ad2, cp2, u2, by omega, by go_num, ?_, rfl, ?_⟩
          · rw [HE.out, if_pos G1.out, ints_snoc]; simp
          · rw [HE.out, if_pos G1.out, ints_snoc]; exact Lib.hid hown
        case measure => simp [intOf]; omega
      · rw [g1] at HK1'
        have G1 := Lib.hid g1; clear g1
        go_wp2_with (first | (refine (HK1'.out).mono ?_; rintro e _ ⟨rfl, v2, rfl⟩))
        go_roundw
        case rel =>
          have hne : ¬ p s = true := by rw [G1.out]; decide
          refine ⟨s+1, ad, cp, v.up v2, by omega, by go_num, ?_, rfl, ?_⟩
          · rw [HE.out, if_neg hne]
          · rw [HE.out, if_neg hne]; exact Lib.hid (HO.out.keep v2.below)
        case measure => simp [intOf]; omega
    · have hse : Hid (s = bit m) := Lib.hid (by omega)
      have d0' : decide ((s : Int) < (bit m : Int)) = false := decide_eq_false (by omega)
      go_wp2
      go_ret2
      rw [hse.out] at HO ⊢
      exact RetP.of (HVB.out v) ⟨_, _, rfl, HO.out.mono HBV.out⟩
theorem c_axFamily {B : Nat} {W : World} (u : Later B W) (m : Nat) (hm : m ≤ 8) (l : List Int) (a : Option Addr) (cap : Nat) (h : IntsAt B W a l) (hlen : l.length ≤ 4611686018427387904) (he : MatIs (m : Int) l 0) (k : FuncId) (caps : Array Value) (p : Nat → Bool) (hpl : Plain k) (hk : TellsR B W m (toN l) k caps p) :
    Calls Try.prog 67 #[.agg #[.int .i64 m, .slice a l.length cap], .func (.func k) #[] caps] u.val (RetP B W (ListE (ints (those m p)) 0)) := listE_of (c_axFamilyO u m hm l a cap h hlen he k caps p hpl hk)

end Go.Proofs.Ytefkhnibempibaa
