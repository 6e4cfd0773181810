
/-
  axioms.ranks, axioms.Ranks.
  rotaref.Spread, minors.pressed.
  same.moved, same.ones, same.ranks.
-/
import Derived.Test.YtjenaglgloaejaaPk09
import Derived.Test.YtjenaglgloaejaaPk12
import Derived.Test.YtjenaglgloaejaaPk02
import Derived.Deep.CutRange
namespace Go.Proofs.Ytjenaglgloaejaa
open Go.RowKit
set_option linter.unusedVariables false

set_option maxRecDepth 100000 in
set_option maxHeartbeats 8000000 in
theorem c_axRanks0B {B : Nat} {W : World} (u : Later B W) (m : Nat) (hm : m ≤ 8) (l : List Int) (a : Option Addr) (cap : Nat) (h : IntsAt B W a l) (hlen : l.length ≤ 4611686018427387904) (hf : isFam (m : Int) l) :
    Calls Try.prog 75 #[.agg #[.int .i64 m, .slice a l.length cap]] u.val (RetP B W (fun v w => ∃ g c, v = .slice (some ⟨g, 0, none⟩) (bit m) c ∧ ITab w g (bit m) (fun j => (rk (toN l) j : Int)) ∧ B ≤ g)) := by
  have hb := bit_le m hm
  have hbc := bit_cast m
  have hmk := mk_tab (bit m) (by omega)
  have T0 : Hid (Two (u.val.alloc (.cells #[.int .i64 m, .slice a l.length cap] 24)) u.val.heap.size 24 (.int .i64 m) (.slice a l.length cap)) := Lib.hid (Two.new _ _ _ _)
  have HI : Hid (IntsAt (u.val.alloc (.cells #[.int .i64 m, .slice a l.length cap] 24)).heap.size (u.val.alloc (.cells #[.int .i64 m, .slice a l.length cap] 24)) a l) := Lib.hid (h.to (u.alloc _))
  have hrr : u.val.heap.size < (u.val.alloc (.cells #[.int .i64 m, .slice a l.length cap] 24)).heap.size := by simp
  have HV : Hid (∀ v : Later (u.val.alloc (.cells #[.int .i64 m, .slice a l.length cap] 24)).heap.size (u.val.alloc (.cells #[.int .i64 m, .slice a l.length cap] 24)), ∃ w : Later B W, w.val = v.val) := Lib.hid (fun v => ⟨(u.alloc _).up v, rfl⟩)
  have HBg : Hid (B ≤ (u.val.alloc (.cells #[.int .i64 m, .slice a l.length cap] 24)).heap.size) := Lib.hid (by have := u.size; simp; omega)
  have HN : Hid (∀ i, i < l.length → ∃ s : Nat, l.getD i 0 = s ∧ s < 256 ∧ (toN l).getD i 0 = s) := Lib.hid (fun i hi => by
    have h1 := hf.2.2 i hi
    have h2 := all_le (m : Int) hf.2.1
    exact ⟨(l.getD i 0).toNat, by omega, by omega, toN_getD l i⟩)
  have HLn := Lib.hid (toN_len l)
  clear h hf
  generalize toN l = L at *
  go_enter Try.func75, Try.ntmps75
  go_upto_region 1 with fail
  generalize hr2 : u.val.heap.size = g0 at *
  generalize u.val.alloc (.cells #[.int .i64 m, .slice a l.length cap] 24) = W1 at *
  clear hr2 u
  have qa := T0.out.c0
  go_upto_region 2 with fail
  clear qa
  have HT : Hid (ITab (W1.alloc (.cells (madeCells #[Value.int .i64 0] (bit m)) 3)) W1.heap.size (bit m) (rkT L 0 0)) := Lib.hid ((ITab.made W1 (bit m)).congr (fun j _ => (rkT_start L j).symm))
  have hg1 : W1.heap.size ≤ W1.heap.size := Nat.le_refl _
  have HZ : Hid (∃ w : Later W1.heap.size W1, w.val = W1.alloc (.cells (madeCells #[Value.int .i64 0] (bit m)) 3)) := Lib.hid ⟨(Later.self W1).alloc _, rfl⟩
  generalize W1.alloc (.cells (madeCells #[Value.int .i64 0] (bit m)) 3) = W2 at *
  obtain ⟨v1, hv1⟩ := HZ.out
  subst hv1
  clear HZ hmk
  generalize hgg : W1.heap.size = g at *
  clear hgg
  go_wp2
  go_loopw [13] (fun i wr => ∃ (s : Nat) (v : Later g W1), s ≤ bit m ∧ i = .int .i64 s ∧ wr = v.val ∧ Hid (ITab v.val g (bit m) (rkT L s 0))) (fun i _ => bit m - (intOf i).toNat)
  case atStart => exact ⟨0, v1, by omega, rfl, rfl, HT⟩
  case round =>
    clear v1 HT
    obtain ⟨s, v1, hs, rfl, rfl, HT⟩ := hrel
    have qb := (T0.out.keep_at v1.below hrr).c1
    rcases nlt s (bit m) with ⟨hsb, e0⟩ | ⟨hsb, e0⟩
    · have e0' : decide ((s : Int) < (bit m : Int)) = true := decide_eq_true (by omega)
      go_wp2
      clear e0 e0' qb
      go_loopw [19] (fun i wr => ∃ (k : Nat) (v : Later g W1), k ≤ l.length ∧ i = .int .i64 k ∧ wr = v.val ∧ Hid (ITab v.val g (bit m) (rkT L s k))) (fun i _ => l.length - (intOf i).toNat)
      case atStart => exact ⟨0, v1, by omega, rfl, rfl, HT⟩
      case round =>
        clear v1 HT
        obtain ⟨k, v, hk, rfl, rfl, HT⟩ := hrel
        by_cases hlt2 : k < l.length
        · obtain ⟨x, hx, hx8, hxL⟩ := HN.out k hlt2
          obtain ⟨bb, off, rfl, hbB, hcell⟩ := HI.out.at hlt2
          have HTk : Hid (∀ w : Later v.val.heap.size v.val, ITab w.val g (bit m) (rkT L s k)) := Lib.hid (fun w => HT.out.keep w.below)
          have c0 : ∀ w : Later v.val.heap.size v.val, w.val.cell? ⟨bb, off + k, none⟩ = some (.int .i64 (x : Int)) := fun w => by rw [← hx]; exact hcell (v.up w) k hlt2
          have c0' : v.val.cell? ⟨bb, off + k, none⟩ = some (.int .i64 (x : Int)) := c0 (Later.self _)
          have c1 : ∀ w : Later v.val.heap.size v.val, w.val.cell? ⟨g, s, none⟩ = some (.int .i64 (rkTo L s k : Int)) := fun w => by
            have := (HTk.out w).cell hsb
            rwa [rkT_at] at this
          have c2 : ∀ w : Later v.val.heap.size v.val, w.val.frozen? ⟨g, s, none⟩ = false := fun w => (HTk.out w).frozen s
          have hand := i64_and s x (by omega) (by omega)
          have hsx : s &&& x < 256 := Nat.lt_of_le_of_lt Nat.and_le_right hx8
          have KS := Lib.hid (fun w : Later v.val.heap.size v.val => c_size_axioms w (s &&& x) hsx)
          have HSt : Hid (rkTo L s (k+1) = max (rkTo L s k) (sz (s &&& x))) := Lib.hid (by rw [← hxL]; rfl)
          have HTn : Hid (∀ (w : World) (z : Nat), ITab w g (bit m) (rkT L s k) → rkTo L s (k+1) = z → ITab (w.setCell ⟨g, s, none⟩ (.int .i64 (z : Int))) g (bit m) (rkT L s (k+1))) := Lib.hid (fun w z h hz => h.set s (z : Int) (fun j _ => by
            unfold rkT
            by_cases h1 : j < s
            · rw [if_pos h1, if_neg (by omega), if_pos h1]
            · by_cases h2 : j = s
              · rw [if_neg h1, if_pos h2, if_pos h2, hz]
              · rw [if_neg h1, if_neg h2, if_neg h2, if_neg h1, if_neg h2]))
          have hr8 := rkTo_le8 L s k
          have hz8 := sz_le (s &&& x)
          clear hx hxL hcell HT
          generalize rkTo L s k = p at *
          generalize sz (s &&& x) = z at *
          rcases ilt (p : Int) (z : Int) with ⟨g1, d1⟩ | ⟨g1, d1⟩ <;> rcases ilt (z : Int) (p : Int) with ⟨g2, d2⟩ | ⟨g2, d2⟩
          all_goals first | (exfalso; omega) | skip
          all_goals
            go_wp2
            refine wp_region_later_qtail (Later.self v.val) 12 (by kernel_rfl) (by kernel_rfl) (fun _ => ?_)
            simp only [List.take_succ_cons, List.take_zero, List.drop_succ_cons, List.drop_zero]
            repeat (first | go_big_quiet_step (((go_at_call 55; exact KS.out _))) | (refine wpQuiet_step (fun K hK => ?_); go_simp; refine ⟨_, fun _ => rfl, ?_⟩; refine hK _ ?_; clear hK K))
            refine wpQuiet_nil ?_
            intro v2
            go_wp2
            go_roundw
            case rel =>
              first
              | exact ⟨k+1, (v.up v2).set ⟨g, s, none⟩ (Nat.le_refl _) _, by omega, by go_num, rfl, Lib.hid (HTn.out _ p (HTk.out v2) (by rw [HSt.out]; omega))⟩
              | exact ⟨k+1, (v.up v2).set ⟨g, s, none⟩ (Nat.le_refl _) _, by omega, by go_num, rfl, Lib.hid (HTn.out _ z (HTk.out v2) (by rw [HSt.out]; omega))⟩
            case measure => simp [intOf]; omega
        · have hke : Hid (k = L.length) := Lib.hid (by have := HLn.out; omega)
          go_wp2
          go_roundw
          case rel => exact ⟨s+1, v, by omega, by go_num, rfl, Lib.hid (HT.out.congr (fun j _ => by rw [hke.out]; exact rkT_next L s j))⟩
          case measure => simp [intOf]; omega
    · have hse : Hid (s = bit m) := Lib.hid (by omega)
      have e0' : decide ((s : Int) < (bit m : Int)) = false := decide_eq_false (by omega)
      clear qb
      go_wp2
      go_ret
      refine RetP.of (HV.out v1) ⟨g, _, rfl, ?_, HBg.out⟩
      refine HT.out.congr (fun j hj => ?_)
      unfold rkT; rw [hse.out, if_pos hj]

theorem c_axRanks0 {B : Nat} {W : World} (u : Later B W) (m : Nat) (hm : m ≤ 8) (l : List Int) (a : Option Addr) (cap : Nat) (h : IntsAt B W a l) (hlen : l.length ≤ 4611686018427387904) (hf : isFam (m : Int) l) :
    Calls Try.prog 75 #[.agg #[.int .i64 m, .slice a l.length cap]] u.val (RetP B W (fun v w => ∃ g c, v = .slice (some ⟨g, 0, none⟩) (bit m) c ∧ ITab w g (bit m) (fun j => (rk (toN l) j : Int)))) := (c_axRanks0B u m hm l a cap h hlen hf).mono fun _ _ ⟨v, h1, ⟨g, c, h2, h3, _⟩, h4⟩ => ⟨v, h1, ⟨g, c, h2, h3⟩, h4⟩

set_option maxRecDepth 100000 in
set_option maxHeartbeats 4000000 in
theorem c_axRanksB {B : Nat} {W : World} (u : Later B W) (m : Nat) (hm : m ≤ 8) (l : List Int) (a : Option Addr) (cap : Nat) (h : IntsAt B W a l) (hlen : l.length ≤ 4611686018427387904) (he : MatIs (m : Int) l 0) :
    Calls Try.prog 57 #[.agg #[.int .i64 m, .slice a l.length cap]] u.val (RetP B W (fun v w => ∃ g c, v = .tuple #[.slice (some ⟨g, 0, none⟩) (bit m) c, .int .i64 0] ∧ ITab w g (bit m) (fun j => (rk (toN l) j : Int)) ∧ B ≤ g)) := by
  have T0 : Hid (Two (u.val.alloc (.cells #[.int .i64 m, .slice a l.length cap] 24)) u.val.heap.size 24 (.int .i64 m) (.slice a l.length cap)) := Lib.hid (Two.new _ _ _ _)
  have hI : IntsAt (u.val.alloc (.cells #[.int .i64 m, .slice a l.length cap] 24)).heap.size (u.val.alloc (.cells #[.int .i64 m, .slice a l.length cap] 24)) a l := h.to (u.alloc _)
  have HV : Hid (∀ v : Later (u.val.alloc (.cells #[.int .i64 m, .slice a l.length cap] 24)).heap.size (u.val.alloc (.cells #[.int .i64 m, .slice a l.length cap] 24)), ∃ w : Later B W, w.val = v.val) := Lib.hid (fun v => ⟨(u.alloc _).up v, rfl⟩)
  have q0 : ∀ w : Later (u.val.alloc (.cells #[.int .i64 m, .slice a l.length cap] 24)).heap.size (u.val.alloc (.cells #[.int .i64 m, .slice a l.length cap] 24)), w.val.cell? ⟨u.val.heap.size, 0, none⟩ = some (.int .i64 m) := fun w => (T0.out.keep w.below).c0
  have q1 : ∀ w : Later (u.val.alloc (.cells #[.int .i64 m, .slice a l.length cap] 24)).heap.size (u.val.alloc (.cells #[.int .i64 m, .slice a l.length cap] 24)), w.val.cell? ⟨u.val.heap.size, 1, none⟩ = some (.slice a l.length cap) := fun w => (T0.out.keep w.below).c1
  have p0 : (u.val.alloc (.cells #[.int .i64 m, .slice a l.length cap] 24)).cell? ⟨u.val.heap.size, 0, none⟩ = some (.int .i64 m) := T0.out.c0
  have p1 : (u.val.alloc (.cells #[.int .i64 m, .slice a l.length cap] 24)).cell? ⟨u.val.heap.size, 1, none⟩ = some (.slice a l.length cap) := T0.out.c1
  have KC : Hid (Calls Try.prog 22 #[.agg #[.int .i64 m, .slice a l.length cap]] (u.val.alloc (.cells #[.int .i64 m, .slice a l.length cap] 24)) (Ret (u.val.alloc (.cells #[.int .i64 m, .slice a l.length cap] 24)).heap.size (u.val.alloc (.cells #[.int .i64 m, .slice a l.length cap] 24)) (.int .i64 0))) := Lib.hid (c_axCheck (Later.self _) m l a cap 0 hI hlen he)
  have KR := Lib.hid (fun v : Later (u.val.alloc (.cells #[.int .i64 m, .slice a l.length cap] 24)).heap.size (u.val.alloc (.cells #[.int .i64 m, .slice a l.length cap] 24)) => c_axRanks0B v m hm l a cap hI hlen (Classical.byContradiction fun hk => by have := he.1 (fun h => hk h.1); omega))
  clear h hI he T0
  go_enter Try.func57, Try.ntmps57
  go_wp2_with (first | (go_at_call 22; ((with_reducible refine (KC.out).mono ?_); rintro e _ ⟨rfl, v1, rfl⟩)) | (go_at_call 75; ((with_reducible refine (KR.out _).mono ?_); rintro e _ ⟨_, rfl, ⟨g, c, rfl, HT, hBg⟩, v2, rfl⟩)))
  go_ret2
  exact RetP.of (HV.out v2) ⟨g, c, rfl, HT, by have := u.size; simp at hBg; omega⟩
theorem c_axRanks {B : Nat} {W : World} (u : Later B W) (m : Nat) (hm : m ≤ 8) (l : List Int) (a : Option Addr) (cap : Nat) (h : IntsAt B W a l) (hlen : l.length ≤ 4611686018427387904) (he : MatIs (m : Int) l 0) :
    Calls Try.prog 57 #[.agg #[.int .i64 m, .slice a l.length cap]] u.val (RetP B W (fun v w => ∃ g c, v = .tuple #[.slice (some ⟨g, 0, none⟩) (bit m) c, .int .i64 0] ∧ ITab w g (bit m) (fun j => (rk (toN l) j : Int)))) := (c_axRanksB u m hm l a cap h hlen he).mono fun _ _ ⟨v, h1, ⟨g, c, h2, h3, _⟩, h4⟩ => ⟨v, h1, ⟨g, c, h2, h3⟩, h4⟩

end Go.Proofs.Ytjenaglgloaejaa

namespace Go.Proofs.Ytjenaglgloaejaa
open Go.RowKit
set_option linter.unusedVariables false

set_option maxRecDepth 100000 in
set_option maxHeartbeats 4000000 in
theorem c_spread {B : Nat} {W : World} (u : Later B W) (m gone s : Nat) (hm : m ≤ 8) (hg : gone < 256) (hs : s < 256) :
    Calls Try.prog 61 #[.int .i64 m, .int .i64 gone, .int .i64 s] u.val (Ret B W (.int .i64 (spTo gone s m))) := by
  go_enter Try.func61, Try.ntmps61
  go_wp2
  go_loopw [7, 8, 9] (fun o c i wr => ∃ (k : Nat) (v : Later B W), k ≤ m ∧ o = .int .i64 (spTo gone s k) ∧ c = .int .i64 (cnt gone k) ∧ i = .int .i64 k ∧ wr = v.val) (fun _ _ i _ => m - (intOf i).toNat)
  case atStart => exact ⟨0, u, by omega, rfl, rfl, rfl, rfl⟩
  case round =>
    obtain ⟨k, v, hk, rfl, rfl, rfl, rfl⟩ := hrel
    by_cases hlt : k < m
    · have hc := cnt_le gone k
      have KI := Lib.hid (fun v : Later B W => c_in v gone k (by omega) (by omega))
      have KJ := Lib.hid (fun v : Later B W => c_in v s (cnt gone k) (by omega) (by omega))
      have hS : spTo gone s (k + 1) = if gone.testBit k = false ∧ s.testBit (cnt gone k) = true then spTo gone s k ||| bit k else spTo gone s k := rfl
      have hz := spTo_lt gone s k
      have hbk := bit_lt k (by omega)
      have bc := bit_cast k
      have w1 := IntWalk.i64_in (bit k : Int) (by omega)
      have o1 := i64_or (spTo gone s k) (bit k) (by omega) (by omega)
      rcases btf (gone.testBit k) with g1 | g1
      · rw [g1] at KI
        have H1 : Hid (spTo gone s (k + 1) = spTo gone s k) := Lib.hid (by rw [hS, if_neg (by rw [g1]; simp)])
        have H2 := Lib.hid (cnt_yes g1)
        clear hS g1 o1 bc w1
        generalize spTo gone s k = z at *
        generalize cnt gone k = c at *
        go_wp2_with (first | (go_at_call 63; ((with_reducible refine (KI.out _).mono ?_); rintro e _ ⟨rfl, v, rfl⟩)))
        go_roundw
        case rel => exact ⟨k+1, v, by omega, by rw [H1.out], by rw [H2.out], by go_num, rfl⟩
        case measure => simp [intOf]; omega
      · rw [g1] at KI
        have H2 := Lib.hid (cnt_no g1)
        rcases btf (s.testBit (cnt gone k)) with g2 | g2
        · rw [g2] at KJ
          have H1 : Hid (spTo gone s (k + 1) = spTo gone s k ||| bit k) := Lib.hid (by rw [hS, if_pos ⟨g1, g2⟩])
          clear hS g1 g2
          generalize spTo gone s k = z at *
          generalize cnt gone k = c at *
          go_wp2_with (first | (refine (KI.out v).mono ?_; rintro e _ ⟨rfl, v1, rfl⟩) | (refine (KJ.out v1).mono ?_; rintro e _ ⟨rfl, v2, rfl⟩))
          go_roundw
          case rel => exact ⟨k+1, v2, by omega, by rw [H1.out], by rw [H2.out]; go_num, by go_num, rfl⟩
          case measure => simp [intOf]; omega
        · rw [g2] at KJ
          have H1 : Hid (spTo gone s (k + 1) = spTo gone s k) := Lib.hid (by rw [hS, if_neg (by rw [g2]; simp)])
          clear hS g1 g2 o1 bc w1
          generalize spTo gone s k = z at *
          generalize cnt gone k = c at *
          go_wp2_with (first | (refine (KI.out v).mono ?_; rintro e _ ⟨rfl, v1, rfl⟩) | (refine (KJ.out v1).mono ?_; rintro e _ ⟨rfl, v2, rfl⟩))
          go_roundw
          case rel => exact ⟨k+1, v2, by omega, by rw [H1.out], by rw [H2.out]; go_num, by go_num, rfl⟩
          case measure => simp [intOf]; omega
    · have hke : k = m := by omega
      subst hke
      go_wp2
      go_ret
      exact Ret.mk v rfl

theorem shr_and (x k : Nat) (hx : x < 256) : bits .and .i64 ((x : Int) / 2 ^ k) 1 = (((x.testBit k).toNat : Nat) : Int) := by
  have e1 : ((x : Int) / 2 ^ k) = ((x / 2 ^ k : Nat) : Int) := by simp
  have h1 : x / 2 ^ k ≤ x := Nat.div_le_self _ _
  rw [e1]
  have := i64_and (x / 2 ^ k) 1 (by omega) (by omega)
  rw [show ((1 : Nat) : Int) = 1 from rfl] at this
  rw [this, Nat.and_one_is_mod, Nat.toNat_testBit]

end Go.Proofs.Ytjenaglgloaejaa

namespace Go.Proofs.Ytjenaglgloaejaa
open Go.RowKit
set_option linter.unusedVariables false

theorem imgTo_lt8 {q : List Nat} (s : Nat) {k : Nat} (h : ∀ i, i < k → q.getD i 0 < 8) : imgTo q s k < 256 := imgTo_lt (n := 8) s h
set_option maxRecDepth 100000 in
set_option maxHeartbeats 4000000 in
theorem c_moved {B : Nat} {W : World} (u : Later B W) (p : List Nat) (s : Nat) (hs : s < 256) (a : Option Addr) (cap : Nat) (h : IntsAt B W a (ints p)) (h8 : ∀ i, i < p.length → p.getD i 0 < 8) (hlen : p.length ≤ 8) :
    Calls Try.prog 71 #[.slice a p.length cap, .int .i64 s] u.val (Ret B W (.int .i64 (img p s))) := by
  have HI := Lib.hid h
  have H8 := Lib.hid h8
  have HLt : Hid (∀ k, k ≤ p.length → imgTo p s k < 256) := Lib.hid (fun k hk => imgTo_lt8 s (fun i hi => h8 i (by omega)))
  have HSt : Hid (∀ k, imgTo p s (k + 1) = if s.testBit k = true then imgTo p s k ||| bit (p.getD k 0) else imgTo p s k) := Lib.hid (fun k => rfl)
  have HE : Hid (img p s = imgTo p s p.length) := Lib.hid rfl
  have H0 : Hid (imgTo p s 0 = 0) := Lib.hid rfl
  rw [HE.out]
  clear h h8 HE
  generalize imgTo p s = T at *
  go_enter Try.func71, Try.ntmps71
  go_wp2
  go_loopw [5, 10] (fun o i wr => ∃ (k : Nat) (v : Later B W), k ≤ p.length ∧ o = .int .i64 (T k) ∧ i = .int .i64 k ∧ wr = v.val) (fun _ i _ => p.length - (intOf i).toNat)
  case atStart => exact ⟨0, u, by omega, by rw [H0.out]; rfl, rfl, rfl⟩
  case round =>
    clear u
    obtain ⟨k, v, hk, rfl, rfl, rfl⟩ := hrel
    by_cases hlt : k < p.length
    · obtain ⟨bb, off, rfl, hbB, hcell⟩ := HI.out.at (k := k) (by rw [ints_len]; exact hlt)
      have c0 : v.val.cell? ⟨bb, off + k, none⟩ = some (.int .i64 ((p.getD k 0 : Nat) : Int)) := by rw [← ints_getD]; exact hcell v k (by rw [ints_len]; exact hlt)
      have hx := H8.out k hlt
      have ht := HLt.out k hk
      have hst := HSt.out k
      have s1 := shr_and s k hs
      clear hcell
      generalize p.getD k 0 = x at *
      have bx := bit_cast x
      have hbx := bit_lt x hx
      have w1 := IntWalk.i64_in (bit x : Int) (by omega)
      have o1 := i64_or (T k) (bit x) (by omega) (by omega)
      have o0 := i64_or (T k) 0 (by omega) (by omega)
      rcases btf (s.testBit k) with g1 | g1
      · rw [g1] at s1 hst
        rw [show ((true.toNat : Nat) : Int) = 1 from rfl] at s1
        have HN : Hid (T (k + 1) = T k ||| bit x) := Lib.hid hst
        clear hst
        generalize T k = tk at *
        generalize tk ||| bit x = tn at *
        go_wp2
        go_roundw
        case rel => exact ⟨k+1, v, by omega, by rw [HN.out], by go_num, rfl⟩
        case measure => simp [intOf]; omega
      · rw [g1] at s1 hst
        rw [show ((false.toNat : Nat) : Int) = 0 from rfl] at s1
        rw [Nat.or_zero, show ((0 : Nat) : Int) = 0 from rfl] at o0
        have HN : Hid (T (k + 1) = T k) := Lib.hid hst
        clear hst o1
        generalize T k = tk at *
        go_wp2
        go_roundw
        case rel => exact ⟨k+1, v, by omega, by rw [HN.out], by go_num, rfl⟩
        case measure => simp [intOf]; omega
    · have hke : k = p.length := by omega
      subst hke
      go_wp2
      go_ret
      exact Ret.mk v rfl

set_option maxRecDepth 100000 in
set_option maxHeartbeats 4000000 in
theorem c_sameRanksB {B : Nat} {W : World} (u : Later B W) (m : Nat) (hm : m ≤ 8) (l : List Int) (a : Option Addr) (cap : Nat) (h : IntsAt B W a l) (hlen : l.length ≤ 4611686018427387904) (he : MatIs (m : Int) l 0) :
    Calls Try.prog 23 #[.agg #[.int .i64 m, .slice a l.length cap]] u.val (RetP B W (fun v w => ∃ g c, v = .slice (some ⟨g, 0, none⟩) (bit m) c ∧ ITab w g (bit m) (fun j => (rk (toN l) j : Int)) ∧ B ≤ g)) := by
  have T0 : Hid (Two (u.val.alloc (.cells #[.int .i64 m, .slice a l.length cap] 24)) u.val.heap.size 24 (.int .i64 m) (.slice a l.length cap)) := Lib.hid (Two.new _ _ _ _)
  have hrr : u.val.heap.size < (u.val.alloc (.cells #[.int .i64 m, .slice a l.length cap] 24)).heap.size := by simp
  have hI : IntsAt (u.val.alloc (.cells #[.int .i64 m, .slice a l.length cap] 24)).heap.size (u.val.alloc (.cells #[.int .i64 m, .slice a l.length cap] 24)) a l := h.to (u.alloc _)
  have HV : Hid (∀ v : Later (u.val.alloc (.cells #[.int .i64 m, .slice a l.length cap] 24)).heap.size (u.val.alloc (.cells #[.int .i64 m, .slice a l.length cap] 24)), ∃ w : Later B W, w.val = v.val) := Lib.hid (fun v => ⟨(u.alloc _).up v, rfl⟩)
  have q0 : ∀ w : Later (u.val.alloc (.cells #[.int .i64 m, .slice a l.length cap] 24)).heap.size (u.val.alloc (.cells #[.int .i64 m, .slice a l.length cap] 24)), w.val.cell? ⟨u.val.heap.size, 0, none⟩ = some (.int .i64 m) := fun w => (T0.out.keep w.below).c0
  have q1 : ∀ w : Later (u.val.alloc (.cells #[.int .i64 m, .slice a l.length cap] 24)).heap.size (u.val.alloc (.cells #[.int .i64 m, .slice a l.length cap] 24)), w.val.cell? ⟨u.val.heap.size, 1, none⟩ = some (.slice a l.length cap) := fun w => (T0.out.keep w.below).c1
  have p0 : (u.val.alloc (.cells #[.int .i64 m, .slice a l.length cap] 24)).cell? ⟨u.val.heap.size, 0, none⟩ = some (.int .i64 m) := T0.out.c0
  have p1 : (u.val.alloc (.cells #[.int .i64 m, .slice a l.length cap] 24)).cell? ⟨u.val.heap.size, 1, none⟩ = some (.slice a l.length cap) := T0.out.c1
  have hBM : B ≤ (u.val.alloc (.cells #[.int .i64 m, .slice a l.length cap] 24)).heap.size := by have := u.size; simp; omega
  have KR : Hid (Calls Try.prog 57 #[.agg #[.int .i64 m, .slice a l.length cap]] (u.val.alloc (.cells #[.int .i64 m, .slice a l.length cap] 24)) (RetP (u.val.alloc (.cells #[.int .i64 m, .slice a l.length cap] 24)).heap.size (u.val.alloc (.cells #[.int .i64 m, .slice a l.length cap] 24)) (fun v w => ∃ g c, v = .tuple #[.slice (some ⟨g, 0, none⟩) (bit m) c, .int .i64 0] ∧ ITab w g (bit m) (fun j => (rk (toN l) j : Int)) ∧ (u.val.alloc (.cells #[.int .i64 m, .slice a l.length cap] 24)).heap.size ≤ g))) := Lib.hid (c_axRanksB (Later.self (u.val.alloc (.cells #[.int .i64 m, .slice a l.length cap] 24))) m hm l a cap hI hlen he)
  clear h hI he
  go_enter Try.func23, Try.ntmps23
  go_wp2_with (first | (go_at_call 57; (with_reducible refine (KR.out).mono ?_); rintro e _ ⟨_, rfl, ⟨g, c, rfl, hT, hBg⟩, v1, rfl⟩))
  go_ret
  exact RetP.of (HV.out v1) ⟨g, c, rfl, hT, by omega⟩
theorem c_sameRanks {B : Nat} {W : World} (u : Later B W) (m : Nat) (hm : m ≤ 8) (l : List Int) (a : Option Addr) (cap : Nat) (h : IntsAt B W a l) (hlen : l.length ≤ 4611686018427387904) (he : MatIs (m : Int) l 0) :
    Calls Try.prog 23 #[.agg #[.int .i64 m, .slice a l.length cap]] u.val (RetP B W (fun v w => ∃ g c, v = .slice (some ⟨g, 0, none⟩) (bit m) c ∧ ITab w g (bit m) (fun j => (rk (toN l) j : Int)))) := (c_sameRanksB u m hm l a cap h hlen he).mono fun _ _ ⟨v, h1, ⟨g, c, h2, h3, _⟩, h4⟩ => ⟨v, h1, ⟨g, c, h2, h3⟩, h4⟩
end Go.Proofs.Ytjenaglgloaejaa
