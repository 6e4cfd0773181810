
/-
  Tables of numbers that a call makes and writes; results that are a list and an error.
  rotaref.Ranks.
  axioms.ranks, axioms.Ranks.
-/
import Derived.Test.YtmcffbmhkbijlaaPk02
import Derived.Test.YtmcffbmhkbijlaaPk05
import Derived.IntWalk
namespace Go.Proofs.Ytmcffbmhkbijlaa
open Go.RowKit
set_option linter.unusedVariables false

theorem mk_tab (n : Nat) (h : n ≤ 1048576) : ∀ w : World, (Instr.makeSlice 22 (.int .i64 (n : Int)) (.int .i64 (n : Int))).run Try.prog w = .ok (.slice (some ⟨w.heap.size, 0, none⟩) n n) (w.alloc (.cells (madeCells #[.int .i64 0] n) 3)) :=
  fun w => run_make_row' (P := Try.prog) 22 3 (.int .i64 0) 8 Try.underlying22 info_int rfl .i64 .i64 n (by omega) (by omega) w

/-- a table of numbers in block g -/
def ITab (w : World) (g n : Nat) (A : Nat → Int) : Prop := w.rowIs g 3 n (fun j => .int .i64 (A j))
theorem ITab.lt {w : World} {g n : Nat} {A : Nat → Int} (h : ITab w g n A) : g < w.heap.size := World.rowIs.lt h
theorem ITab.keep {w w' : World} {g n : Nat} {A : Nat → Int} (h : ITab w g n A) (hb : Below w.heap.size w w') : ITab w' g n A := World.rowIs.of_block h (hb.block g (World.rowIs.lt h))
theorem ITab.keep_at {w w' : World} {g n B : Nat} {A : Nat → Int} (h : ITab w g n A) (hb : Below B w w') (hg : g < B) : ITab w' g n A := World.rowIs.of_block h (hb.block g hg)
theorem ITab.cell {w : World} {g n : Nat} {A : Nat → Int} (h : ITab w g n A) {i : Nat} (hi : i < n) : w.cell? ⟨g, i, none⟩ = some (.int .i64 (A i)) := World.rowIs.cell h hi
theorem ITab.frozen {w : World} {g n : Nat} {A : Nat → Int} (h : ITab w g n A) (i : Nat) : w.frozen? ⟨g, i, none⟩ = false := World.rowIs.frozen h i
theorem ITab.set {w : World} {g n : Nat} {A : Nat → Int} (h : ITab w g n A) (i : Nat) (v : Int) {A' : Nat → Int} (e : ∀ j, j < n → A' j = if j = i then v else A j) : ITab (w.setCell ⟨g, i, none⟩ (.int .i64 v)) g n A' :=
  World.rowIs.congr (World.rowIs.set h i _) (fun j hj => by
    show (if j = i then _ else _ : Value) = _
    rw [e j hj]; split <;> rfl)
theorem ITab.congr {w : World} {g n : Nat} {A A' : Nat → Int} (h : ITab w g n A) (e : ∀ j, j < n → A j = A' j) : ITab w g n A' := World.rowIs.congr h (fun j hj => by show Value.int _ _ = Value.int _ _; rw [e j hj])
theorem ITab.other {w : World} {g n : Nat} {A : Nat → Int} (h : ITab w g n A) {b i : Nat} (hne : g ≠ b) (x : Value) : ITab (w.setCell ⟨b, i, none⟩ x) g n A := World.rowIs.of_block h (Below.heap_setCell _ _ _ _ (by rintro rfl; exact hne rfl))
theorem ITab.made (w : World) (n : Nat) : ITab (w.alloc (.cells (madeCells #[.int .i64 0] n) 3)) w.heap.size n (fun _ => 0) := World.rowIs_made w (.int .i64 0) n 3
/-- the numbers of a table -/
def tabL (n : Nat) (A : Nat → Int) : List Int := (List.range n).map A
theorem tabL_len (n : Nat) (A : Nat → Int) : (tabL n A).length = n := by simp [tabL]
theorem tabL_getD {n : Nat} {A : Nat → Int} {i : Nat} (h : i < n) : (tabL n A).getD i 0 = A i := by simp [tabL, h]
theorem tabL_snoc (n : Nat) (A : Nat → Int) : tabL (n + 1) A = tabL n A ++ [A n] := by simp [tabL, List.range_succ]
theorem tabL_congr {n : Nat} {A A' : Nat → Int} (h : ∀ j, j < n → A j = A' j) : tabL n A = tabL n A' := by
  unfold tabL
  exact List.map_congr_left (fun j hj => h j (by simpa using hj))
theorem ITab.ints {w : World} {g n : Nat} {A : Nat → Int} (h : ITab w g n A) : IntsAt w.heap.size w (some ⟨g, 0, none⟩) (tabL n A) := by
  intro _
  refine ⟨g, 0, rfl, h.lt, fun k hk => ?_⟩
  rw [tabL_len] at hk
  rw [tabL_getD hk, Nat.zero_add]
  exact h.cell hk
theorem ITab.reads {w : World} {g n cap : Nat} {A : Nat → Int} (h : ITab w g n A) : Reads w.heap.size w (.slice (some ⟨g, 0, none⟩) n cap) (tabL n A) :=
  ⟨_, _, by rw [tabL_len], h.ints, fun h => by cases h⟩

/-- a list and an error -/
def ListE (xs : List Int) (e : Int) (v : Value) (w : World) : Prop := ∃ v1, v = .tuple #[v1, .int .i64 e] ∧ Reads w.heap.size w v1 xs
theorem ListE.mk {xs : List Int} {e : Int} {v1 : Value} {w : World} (h : Reads w.heap.size w v1 xs) : ListE xs e (.tuple #[v1, .int .i64 e]) w := ⟨v1, rfl, h⟩
theorem ListE.no {e : Int} {w : World} : ListE [] e (.tuple #[.slice none 0 0, .int .i64 e]) w := ⟨_, rfl, Reads.nil _ _⟩

end Go.Proofs.Ytmcffbmhkbijlaa

namespace Go.Proofs.Ytmcffbmhkbijlaa
open Go.RowKit
set_option linter.unusedVariables false

/-- the table of ranks behind s sets and k bases of the next one -/
def rkT (L : List Nat) (s k : Nat) (j : Nat) : Int := if j < s then (rk L j : Int) else if j = s then (rkTo L s k : Int) else 0
theorem rkT_at (L : List Nat) (s k : Nat) : rkT L s k s = (rkTo L s k : Int) := by simp [rkT]
theorem rkT_start (L : List Nat) (j : Nat) : rkT L 0 0 j = 0 := by simp [rkT, rkTo]
theorem rkT_next (L : List Nat) (s j : Nat) : rkT L s L.length j = rkT L (s+1) 0 j := by
  unfold rkT
  by_cases h1 : j < s
  · rw [if_pos h1, if_pos (by omega)]
  · by_cases h2 : j = s
    · rw [if_neg h1, if_pos h2, if_pos (by omega), h2]; rfl
    · rw [if_neg h1, if_neg h2, if_neg (by omega)]
      split
      · rfl
      · rfl
def rkL (m : Nat) (L : List Nat) : List Int := tabL (bit m) (fun j => (rk L j : Int))
theorem rkTo_le8 (L : List Nat) (s k : Nat) : rkTo L s k ≤ 8 := by
  rcases rkTo_at L s k with h | ⟨i, _, h⟩
  · omega
  · rw [h]; exact sz_le _

end Go.Proofs.Ytmcffbmhkbijlaa

namespace Go.Proofs.Ytmcffbmhkbijlaa
open Go.RowKit
set_option linter.unusedVariables false

set_option maxRecDepth 100000 in
set_option maxHeartbeats 8000000 in
theorem c_axRanks0B {B : Nat} {W : World} (u : Later B W) (m : Nat) (hm : m ≤ 8) (l : List Int) (a : Option Addr) (cap : Nat) (h : IntsAt B W a l) (hlen : l.length ≤ 4611686018427387904) (hf : isFam (m : Int) l) :
    Calls Try.prog 65 #[.agg #[.int .i64 m, .slice a l.length cap]] u.val (RetP B W (fun v w => ∃ g c, v = .slice (some ⟨g, 0, none⟩) (bit m) c ∧ ITab w g (bit m) (fun j => (rk (toN l) j : Int)) ∧ B ≤ g)) := by
  have hb := bit_le m hm
  have hbc := bit_cast m
  have hmk := mk_tab (bit m) (by omega)
  have T0 : Hid (Two (u.val.alloc (.cells #[.int .i64 m, .slice a l.length cap] 29)) u.val.heap.size 29 (.int .i64 m) (.slice a l.length cap)) := Lib.hid (Two.new _ _ _ _)
  have HI : Hid (IntsAt (u.val.alloc (.cells #[.int .i64 m, .slice a l.length cap] 29)).heap.size (u.val.alloc (.cells #[.int .i64 m, .slice a l.length cap] 29)) a l) := Lib.hid (h.to (u.alloc _))
  have hrr : u.val.heap.size < (u.val.alloc (.cells #[.int .i64 m, .slice a l.length cap] 29)).heap.size := by simp
  have HV : Hid (∀ v : Later (u.val.alloc (.cells #[.int .i64 m, .slice a l.length cap] 29)).heap.size (u.val.alloc (.cells #[.int .i64 m, .slice a l.length cap] 29)), ∃ w : Later B W, w.val = v.val) := Lib.hid (fun v => ⟨(u.alloc _).up v, rfl⟩)
  have HBg : Hid (B ≤ (u.val.alloc (.cells #[.int .i64 m, .slice a l.length cap] 29)).heap.size) := Lib.hid (by have := u.size; simp; omega)
  have HN : Hid (∀ i, i < l.length → ∃ s : Nat, l.getD i 0 = s ∧ s < 256 ∧ (toN l).getD i 0 = s) := Lib.hid (fun i hi => by
    have h1 := hf.2.2 i hi
    have h2 := all_le (m : Int) hf.2.1
    exact ⟨(l.getD i 0).toNat, by omega, by omega, toN_getD l i⟩)
  have HLn := Lib.hid (toN_len l)
  clear h hf
  generalize toN l = L at *
  go_enter Try.func65, Try.ntmps65
  go_upto_region 1 with fail
  generalize hr2 : u.val.heap.size = g0 at *
  generalize u.val.alloc (.cells #[.int .i64 m, .slice a l.length cap] 29) = W1 at *
  clear hr2 u
  have qa := T0.out.c0
  go_upto_region 2 with fail
  clear qa
  have HT : Hid (ITab (W1.alloc (.cells (madeCells #[Value.int .i64 0] (bit m)) 3)) W1.heap.size (bit m) (rkT L 0 0)) := Lib.hid ((ITab.made W1 (bit m)).congr (fun j _ => (rkT_start L j).symm))
  have hg1 : W1.heap.size ≤ W1.heap.size := Nat.le_refl _
  have HZ : Hid (∃ w : Later W1.heap.size W1, w.val = W1.alloc (.cells (madeCells #[Value.int .i64 0] (bit m)) 3)) := Lib.hid ⟨(Later.self W1).alloc _, rfl⟩
  generalize W1.alloc (.cells (madeCells #[Value.int .i64 0] (bit m)) 3) = W2 at *
  obtain ⟨v1, hv1⟩ := HZ.out
  subst hv1
  clear HZ hmk
  generalize hgg : W1.heap.size = g at *
  clear hgg
  go_wp2
  go_loopw [13] (fun i wr => ∃ (s : Nat) (v : Later g W1), s ≤ bit m ∧ i = .int .i64 s ∧ wr = v.val ∧ Hid (ITab v.val g (bit m) (rkT L s 0))) (fun i _ => bit m - (intOf i).toNat)
  case atStart => exact ⟨0, v1, by omega, rfl, rfl, HT⟩
  case round =>
    clear v1 HT
    obtain ⟨s, v1, hs, rfl, rfl, HT⟩ := hrel
    have qb := (T0.out.keep_at v1.below hrr).c1
    rcases nlt s (bit m) with ⟨hsb, e0⟩ | ⟨hsb, e0⟩
    · have e0' : decide ((s : Int) < (bit m : Int)) = true := decide_eq_true (by omega)
      go_wp2
      clear e0 e0' qb
      go_loopw [19] (fun i wr => ∃ (k : Nat) (v : Later g W1), k ≤ l.length ∧ i = .int .i64 k ∧ wr = v.val ∧ Hid (ITab v.val g (bit m) (rkT L s k))) (fun i _ => l.length - (intOf i).toNat)
      case atStart => exact ⟨0, v1, by omega, rfl, rfl, HT⟩
      case round =>
        clear v1 HT
        obtain ⟨k, v, hk, rfl, rfl, HT⟩ := hrel
        by_cases hlt2 : k < l.length
        · obtain ⟨x, hx, hx8, hxL⟩ := HN.out k hlt2
          obtain ⟨bb, off, rfl, hbB, hcell⟩ := HI.out.at hlt2
          have HTk : Hid (∀ w : Later v.val.heap.size v.val, ITab w.val g (bit m) (rkT L s k)) := Lib.hid (fun w => HT.out.keep w.below)
          have c0 : ∀ w : Later v.val.heap.size v.val, w.val.cell? ⟨bb, off + k, none⟩ = some (.int .i64 (x : Int)) := fun w => by rw [← hx]; exact hcell (v.up w) k hlt2
          have c0' : v.val.cell? ⟨bb, off + k, none⟩ = some (.int .i64 (x : Int)) := c0 (Later.self _)
          have c1 : ∀ w : Later v.val.heap.size v.val, w.val.cell? ⟨g, s, none⟩ = some (.int .i64 (rkTo L s k : Int)) := fun w => by
            have := (HTk.out w).cell hsb
            rwa [rkT_at] at this
          have c2 : ∀ w : Later v.val.heap.size v.val, w.val.frozen? ⟨g, s, none⟩ = false := fun w => (HTk.out w).frozen s
          have hand := i64_and s x (by omega) (by omega)
          have hsx : s &&& x < 256 := Nat.lt_of_le_of_lt Nat.and_le_right hx8
          have KS := Lib.hid (fun w : Later v.val.heap.size v.val => c_size_axioms w (s &&& x) hsx)
          have HSt : Hid (rkTo L s (k+1) = max (rkTo L s k) (sz (s &&& x))) := Lib.hid (by rw [← hxL]; rfl)
          have HTn : Hid (∀ (w : World) (z : Nat), ITab w g (bit m) (rkT L s k) → rkTo L s (k+1) = z → ITab (w.setCell ⟨g, s, none⟩ (.int .i64 (z : Int))) g (bit m) (rkT L s (k+1))) := Lib.hid (fun w z h hz => h.set s (z : Int) (fun j _ => by
            unfold rkT
            by_cases h1 : j < s
            · rw [if_pos h1, if_neg (by omega), if_pos h1]
            · by_cases h2 : j = s
              · rw [if_neg h1, if_pos h2, if_pos h2, hz]
              · rw [if_neg h1, if_neg h2, if_neg h2, if_neg h1, if_neg h2]))
          have hr8 := rkTo_le8 L s k
          have hz8 := sz_le (s &&& x)
          clear hx hxL hcell HT
          generalize rkTo L s k = p at *
          generalize sz (s &&& x) = z at *
          rcases ilt (p : Int) (z : Int) with ⟨g1, d1⟩ | ⟨g1, d1⟩ <;> rcases ilt (z : Int) (p : Int) with ⟨g2, d2⟩ | ⟨g2, d2⟩
          all_goals first | (exfalso; omega) | skip
          all_goals
            go_wp2
            refine wp_region_later_qtail (Later.self v.val) 12 (by kernel_rfl) (by kernel_rfl) (fun _ => ?_)
            simp only [List.take_succ_cons, List.take_zero, List.drop_succ_cons, List.drop_zero]
            repeat (first | go_big_quiet_step (((go_at_call 46; exact KS.out _))) | (refine wpQuiet_step (fun K hK => ?_); go_simp; refine ⟨_, fun _ => rfl, ?_⟩; refine hK _ ?_; clear hK K))
            refine wpQuiet_nil ?_
            intro v2
            go_wp2
            go_roundw
            case rel =>
              first
              | exact ⟨k+1, (v.up v2).set ⟨g, s, none⟩ (Nat.le_refl _) _, by omega, by go_num, rfl, Lib.hid (HTn.out _ p (HTk.out v2) (by rw [HSt.out]; omega))⟩
              | exact ⟨k+1, (v.up v2).set ⟨g, s, none⟩ (Nat.le_refl _) _, by omega, by go_num, rfl, Lib.hid (HTn.out _ z (HTk.out v2) (by rw [HSt.out]; omega))⟩
              | exact ⟨k+1, (v.up v2).set ⟨g, s, none⟩ (Nat.le_refl _) _, by omega, by go_num, rfl, Lib.hid (by
                  have h9 := HTn.out _ (max p z) (HTk.out v2) (by rw [HSt.out])
                  rw [show ((max p z : Nat) : Int) = max (p : Int) (z : Int) by omega] at h9
                  exact h9)⟩
            case measure => simp [intOf]; omega
        · have hke : Hid (k = L.length) := Lib.hid (by have := HLn.out; omega)
          go_wp2
          go_roundw
          case rel => exact ⟨s+1, v, by omega, by go_num, rfl, Lib.hid (HT.out.congr (fun j _ => by rw [hke.out]; exact rkT_next L s j))⟩
          case measure => simp [intOf]; omega
    · have hse : Hid (s = bit m) := Lib.hid (by omega)
      have e0' : decide ((s : Int) < (bit m : Int)) = false := decide_eq_false (by omega)
      clear qb
      go_wp2
      go_ret
      refine RetP.of (HV.out v1) ⟨g, _, rfl, ?_, HBg.out⟩
      refine HT.out.congr (fun j hj => ?_)
      unfold rkT; rw [hse.out, if_pos hj]

theorem c_axRanks0 {B : Nat} {W : World} (u : Later B W) (m : Nat) (hm : m ≤ 8) (l : List Int) (a : Option Addr) (cap : Nat) (h : IntsAt B W a l) (hlen : l.length ≤ 4611686018427387904) (hf : isFam (m : Int) l) :
    Calls Try.prog 65 #[.agg #[.int .i64 m, .slice a l.length cap]] u.val (RetP B W (fun v w => ∃ g c, v = .slice (some ⟨g, 0, none⟩) (bit m) c ∧ ITab w g (bit m) (fun j => (rk (toN l) j : Int)))) := (c_axRanks0B u m hm l a cap h hlen hf).mono fun _ _ ⟨v, h1, ⟨g, c, h2, h3, _⟩, h4⟩ => ⟨v, h1, ⟨g, c, h2, h3⟩, h4⟩

set_option maxRecDepth 100000 in
set_option maxHeartbeats 4000000 in
theorem c_axRanksB {B : Nat} {W : World} (u : Later B W) (m : Nat) (hm : m ≤ 8) (l : List Int) (a : Option Addr) (cap : Nat) (h : IntsAt B W a l) (hlen : l.length ≤ 4611686018427387904) (he : MatIs (m : Int) l 0) :
    Calls Try.prog 47 #[.agg #[.int .i64 m, .slice a l.length cap]] u.val (RetP B W (fun v w => ∃ g c, v = .tuple #[.slice (some ⟨g, 0, none⟩) (bit m) c, .int .i64 0] ∧ ITab w g (bit m) (fun j => (rk (toN l) j : Int)) ∧ B ≤ g)) := by
  have T0 : Hid (Two (u.val.alloc (.cells #[.int .i64 m, .slice a l.length cap] 29)) u.val.heap.size 29 (.int .i64 m) (.slice a l.length cap)) := Lib.hid (Two.new _ _ _ _)
  have hI : IntsAt (u.val.alloc (.cells #[.int .i64 m, .slice a l.length cap] 29)).heap.size (u.val.alloc (.cells #[.int .i64 m, .slice a l.length cap] 29)) a l := h.to (u.alloc _)
  have HV : Hid (∀ v : Later (u.val.alloc (.cells #[.int .i64 m, .slice a l.length cap] 29)).heap.size (u.val.alloc (.cells #[.int .i64 m, .slice a l.length cap] 29)), ∃ w : Later B W, w.val = v.val) := Lib.hid (fun v => ⟨(u.alloc _).up v, rfl⟩)
  have q0 : ∀ w : Later (u.val.alloc (.cells #[.int .i64 m, .slice a l.length cap] 29)).heap.size (u.val.alloc (.cells #[.int .i64 m, .slice a l.length cap] 29)), w.val.cell? ⟨u.val.heap.size, 0, none⟩ = some (.int .i64 m) := fun w => (T0.out.keep w.below).c0
  have q1 : ∀ w : Later (u.val.alloc (.cells #[.int .i64 m, .slice a l.length cap] 29)).heap.size (u.val.alloc (.cells #[.int .i64 m, .slice a l.length cap] 29)), w.val.cell? ⟨u.val.heap.size, 1, none⟩ = some (.slice a l.length cap) := fun w => (T0.out.keep w.below).c1
  have p0 : (u.val.alloc (.cells #[.int .i64 m, .slice a l.length cap] 29)).cell? ⟨u.val.heap.size, 0, none⟩ = some (.int .i64 m) := T0.out.c0
  have p1 : (u.val.alloc (.cells #[.int .i64 m, .slice a l.length cap] 29)).cell? ⟨u.val.heap.size, 1, none⟩ = some (.slice a l.length cap) := T0.out.c1
  have KC : Hid (Calls Try.prog 32 #[.agg #[.int .i64 m, .slice a l.length cap]] (u.val.alloc (.cells #[.int .i64 m, .slice a l.length cap] 29)) (Ret (u.val.alloc (.cells #[.int .i64 m, .slice a l.length cap] 29)).heap.size (u.val.alloc (.cells #[.int .i64 m, .slice a l.length cap] 29)) (.int .i64 0))) := Lib.hid (c_axCheck (Later.self _) m l a cap 0 hI hlen he)
  have KR := Lib.hid (fun v : Later (u.val.alloc (.cells #[.int .i64 m, .slice a l.length cap] 29)).heap.size (u.val.alloc (.cells #[.int .i64 m, .slice a l.length cap] 29)) => c_axRanks0B v m hm l a cap hI hlen (Classical.byContradiction fun hk => by have := he.1 (fun h => hk h.1); omega))
  clear h hI he T0
  go_enter Try.func47, Try.ntmps47
  go_wp2_with (first | (go_at_call 32; ((with_reducible refine (KC.out).mono ?_); rintro e _ ⟨rfl, v1, rfl⟩)) | (go_at_call 65; ((with_reducible refine (KR.out _).mono ?_); rintro e _ ⟨_, rfl, ⟨g, c, rfl, HT, hBg⟩, v2, rfl⟩)))
  go_ret2
  exact RetP.of (HV.out v2) ⟨g, c, rfl, HT, by have := u.size; simp at hBg; omega⟩
theorem c_axRanks {B : Nat} {W : World} (u : Later B W) (m : Nat) (hm : m ≤ 8) (l : List Int) (a : Option Addr) (cap : Nat) (h : IntsAt B W a l) (hlen : l.length ≤ 4611686018427387904) (he : MatIs (m : Int) l 0) :
    Calls Try.prog 47 #[.agg #[.int .i64 m, .slice a l.length cap]] u.val (RetP B W (fun v w => ∃ g c, v = .tuple #[.slice (some ⟨g, 0, none⟩) (bit m) c, .int .i64 0] ∧ ITab w g (bit m) (fun j => (rk (toN l) j : Int)))) := (c_axRanksB u m hm l a cap h hlen he).mono fun _ _ ⟨v, h1, ⟨g, c, h2, h3, _⟩, h4⟩ => ⟨v, h1, ⟨g, c, h2, h3⟩, h4⟩

end Go.Proofs.Ytmcffbmhkbijlaa
