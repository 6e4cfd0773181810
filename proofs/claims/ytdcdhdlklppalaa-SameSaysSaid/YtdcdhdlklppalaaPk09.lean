
/-
  rotaref.Ranks.
  rotaref.Matroid.
  greedy.basis, greedy.two.
-/
import Derived.Test.YtdcdhdlklppalaaPk05
import Derived.Test.YtdcdhdlklppalaaPk08
import Derived.Test.YtdcdhdlklppalaaPk06
import Derived.IntWalk
namespace Go.Proofs.Ytdcdhdlklppalaa
open Go.RowKit
set_option linter.unusedVariables false

/-- the table of ranks behind s sets and k bases of the next one -/
def rkT (L : List Nat) (s k : Nat) (j : Nat) : Int := if j < s then (rk L j : Int) else if j = s then (rkTo L s k : Int) else 0
theorem rkT_at (L : List Nat) (s k : Nat) : rkT L s k s = (rkTo L s k : Int) := by simp [rkT]
theorem rkT_start (L : List Nat) (j : Nat) : rkT L 0 0 j = 0 := by simp [rkT, rkTo]
theorem rkT_next (L : List Nat) (s j : Nat) : rkT L s L.length j = rkT L (s+1) 0 j := by
  unfold rkT
  by_cases h1 : j < s
  · rw [if_pos h1, if_pos (by omega)]
  · by_cases h2 : j = s
    · rw [if_neg h1, if_pos h2, if_pos (by omega), h2]; rfl
    · rw [if_neg h1, if_neg h2, if_neg (by omega)]
      split
      · rfl
      · rfl
def rkL (m : Nat) (L : List Nat) : List Int := tabL (bit m) (fun j => (rk L j : Int))
theorem rkTo_le8 (L : List Nat) (s k : Nat) : rkTo L s k ≤ 8 := by
  rcases rkTo_at L s k with h | ⟨i, _, h⟩
  · omega
  · rw [h]; exact sz_le _

set_option maxRecDepth 100000 in
set_option maxHeartbeats 8000000 in
theorem c_refRanks {B : Nat} {W : World} (u : Later B W) (m : Nat) (hm : m ≤ 8) (l : List Int) (a : Option Addr) (cap : Nat) (h : IntsAt B W a l) (hlen : l.length ≤ 4611686018427387904) (hf : isFam (m : Int) l) :
    Calls Try.prog 21 #[.agg #[.int .i64 m, .slice a l.length cap]] u.val (RetP B W (fun v w => ∃ g c, v = .slice (some ⟨g, 0, none⟩) (bit m) c ∧ ITab w g (bit m) (fun j => (rk (toN l) j : Int)))) := by
  have hb := bit_le m hm
  have hbc := bit_cast m
  have hmk := mk_tab (bit m) (by omega)
  have T0 : Hid (Two (u.val.alloc (.cells #[.int .i64 m, .slice a l.length cap] 24)) u.val.heap.size 24 (.int .i64 m) (.slice a l.length cap)) := Lib.hid (Two.new _ _ _ _)
  have HI : Hid (IntsAt (u.val.alloc (.cells #[.int .i64 m, .slice a l.length cap] 24)).heap.size (u.val.alloc (.cells #[.int .i64 m, .slice a l.length cap] 24)) a l) := Lib.hid (h.to (u.alloc _))
  have hrr : u.val.heap.size < (u.val.alloc (.cells #[.int .i64 m, .slice a l.length cap] 24)).heap.size := by simp
  have HV : Hid (∀ v : Later (u.val.alloc (.cells #[.int .i64 m, .slice a l.length cap] 24)).heap.size (u.val.alloc (.cells #[.int .i64 m, .slice a l.length cap] 24)), ∃ w : Later B W, w.val = v.val) := Lib.hid (fun v => ⟨(u.alloc _).up v, rfl⟩)
  have HN : Hid (∀ i, i < l.length → ∃ s : Nat, l.getD i 0 = s ∧ s < 256 ∧ (toN l).getD i 0 = s) := Lib.hid (fun i hi => by
    have h1 := hf.2.2 i hi
    have h2 := all_le (m : Int) hf.2.1
    exact ⟨(l.getD i 0).toNat, by omega, by omega, toN_getD l i⟩)
  have HLn := Lib.hid (toN_len l)
  clear h hf
  generalize toN l = L at *
  go_enter Try.func21, Try.ntmps21
  go_upto_region 1 with fail
  generalize hr2 : u.val.heap.size = g0 at *
  generalize u.val.alloc (.cells #[.int .i64 m, .slice a l.length cap] 24) = W1 at *
  clear hr2 u
  have qa := T0.out.c0
  go_upto_region 2 with fail
  clear qa
  have HT : Hid (ITab (W1.alloc (.cells (madeCells #[Value.int .i64 0] (bit m)) 3)) W1.heap.size (bit m) (rkT L 0 0)) := Lib.hid ((ITab.made W1 (bit m)).congr (fun j _ => (rkT_start L j).symm))
  have hg1 : W1.heap.size ≤ W1.heap.size := Nat.le_refl _
  have HZ : Hid (∃ w : Later W1.heap.size W1, w.val = W1.alloc (.cells (madeCells #[Value.int .i64 0] (bit m)) 3)) := Lib.hid ⟨(Later.self W1).alloc _, rfl⟩
  generalize W1.alloc (.cells (madeCells #[Value.int .i64 0] (bit m)) 3) = W2 at *
  obtain ⟨v1, hv1⟩ := HZ.out
  subst hv1
  clear HZ hmk
  generalize hgg : W1.heap.size = g at *
  clear hgg
  go_wp2
  go_loopw [4] (fun i wr => ∃ (s : Nat) (v : Later g W1), s ≤ bit m ∧ i = .int .i64 s ∧ wr = v.val ∧ Hid (ITab v.val g (bit m) (rkT L s 0))) (fun i _ => bit m - (intOf i).toNat)
  case atStart => exact ⟨0, v1, by omega, rfl, rfl, HT⟩
  case round =>
    clear v1 HT
    obtain ⟨s, v1, hs, rfl, rfl, HT⟩ := hrel
    have q0 := (T0.out.keep_at v1.below hrr).c0
    have KA : Hid (Calls Try.prog 22 #[.int .i64 m] v1.val (Ret v1.val.heap.size v1.val (.int .i64 ((bit m : Int) - 1)))) := Lib.hid (by
      have := c_all (Later.self v1.val) (m : Int) (by omega) (by omega)
      rwa [all_nat, show ((bit m - 1 : Nat) : Int) = (bit m : Int) - 1 by omega] at this)
    rcases ile (s : Int) ((bit m : Int) - 1) with ⟨hlt, e0⟩ | ⟨hlt, e0⟩
    · have hsb : s < bit m := by omega
      go_wp2_with (first | (go_at_call 22; refine (KA.out).mono ?_; rintro e _ ⟨rfl, v2, rfl⟩))
      have HT2 : Hid (ITab v2.val g (bit m) (rkT L s 0)) := Lib.hid (HT.out.keep v2.below)
      obtain ⟨v3, hv3⟩ : ∃ v3 : Later g W1, v3.val = v2.val := ⟨v1.up v2, rfl⟩
      rw [← hv3] at HT2 ⊢
      clear hv3 q0 HT KA v2 v1
      go_loopw [5] (fun i wr => ∃ (k : Nat) (v : Later g W1), k ≤ l.length ∧ i = .int .i64 k ∧ wr = v.val ∧ Hid (ITab v.val g (bit m) (rkT L s k))) (fun i _ => l.length - (intOf i).toNat)
      case atStart => exact ⟨0, v3, by omega, rfl, rfl, HT2⟩
      case round =>
        clear v3 HT2
        obtain ⟨k, v, hk, rfl, rfl, HT⟩ := hrel
        have q1 : ∀ w : Later v.val.heap.size v.val, w.val.cell? ⟨g0, 1, none⟩ = some (.slice a l.length cap) := fun w => (T0.out.keep_at (v.up w).below hrr).c1
        have q1' := q1 (Later.self v.val)
        have q1'' : v.val.cell? ⟨g0, 1, none⟩ = some (.slice a l.length cap) := q1'
        clear q1'
        by_cases hlt2 : k < l.length
        · obtain ⟨x, hx, hx8, hxL⟩ := HN.out k hlt2
          obtain ⟨bb, off, rfl, hbB, hcell⟩ := HI.out.at hlt2
          have HTk : Hid (∀ w : Later v.val.heap.size v.val, ITab w.val g (bit m) (rkT L s k)) := Lib.hid (fun w => HT.out.keep w.below)
          have c0 : ∀ w : Later v.val.heap.size v.val, w.val.cell? ⟨bb, off + k, none⟩ = some (.int .i64 (x : Int)) := fun w => by rw [← hx]; exact hcell (v.up w) k hlt2
          have c1 : ∀ w : Later v.val.heap.size v.val, w.val.cell? ⟨g, s, none⟩ = some (.int .i64 (rkTo L s k : Int)) := fun w => by
            have := (HTk.out w).cell hsb
            rwa [rkT_at] at this
          have c2 : ∀ w : Later v.val.heap.size v.val, w.val.frozen? ⟨g, s, none⟩ = false := fun w => (HTk.out w).frozen s
          have hand := i64_and s x (by omega) (by omega)
          have hsx : s &&& x < 256 := Nat.lt_of_le_of_lt Nat.and_le_right hx8
          have KS := Lib.hid (fun w : Later v.val.heap.size v.val => c_size w (s &&& x) hsx)
          have HSt : Hid (rkTo L s (k+1) = max (rkTo L s k) (sz (s &&& x))) := Lib.hid (by rw [← hxL]; rfl)
          have HTn : Hid (∀ (w : World) (z : Nat), ITab w g (bit m) (rkT L s k) → rkTo L s (k+1) = z → ITab (w.setCell ⟨g, s, none⟩ (.int .i64 (z : Int))) g (bit m) (rkT L s (k+1))) := Lib.hid (fun w z h hz => h.set s (z : Int) (fun j _ => by
            unfold rkT
            by_cases h1 : j < s
            · rw [if_pos h1, if_neg (by omega), if_pos h1]
            · by_cases h2 : j = s
              · rw [if_neg h1, if_pos h2, if_pos h2, hz]
              · rw [if_neg h1, if_neg h2, if_neg h2, if_neg h1, if_neg h2]))
          have hr8 := rkTo_le8 L s k
          have hz8 := sz_le (s &&& x)
          clear hx hxL hcell HT
          generalize rkTo L s k = p at *
          generalize sz (s &&& x) = z at *
          rcases ilt (p : Int) (z : Int) with ⟨g1, d1⟩ | ⟨g1, d1⟩ <;> rcases ilt (z : Int) (p : Int) with ⟨g2, d2⟩ | ⟨g2, d2⟩
          all_goals first | (exfalso; omega) | skip
          all_goals
            go_wp2
            refine wp_region_later_qtail (Later.self v.val) 16 (by kernel_rfl) (by kernel_rfl) (fun _ => ?_)
            simp only [List.take_succ_cons, List.take_zero, List.drop_succ_cons, List.drop_zero]
            repeat (first | go_big_quiet_step (((go_at_call 20; exact KS.out _))) | (refine wpQuiet_step (fun K hK => ?_); go_simp; refine ⟨_, fun _ => rfl, ?_⟩; refine hK _ ?_; clear hK K))
            refine wpQuiet_nil ?_
            intro v2
            go_wp2
            go_roundw
            case rel =>
              first
              | exact ⟨k+1, (v.up v2).set ⟨g, s, none⟩ (Nat.le_refl _) _, by omega, by go_num, rfl, Lib.hid (HTn.out _ p (HTk.out v2) (by rw [HSt.out]; omega))⟩
              | exact ⟨k+1, (v.up v2).set ⟨g, s, none⟩ (Nat.le_refl _) _, by omega, by go_num, rfl, Lib.hid (HTn.out _ z (HTk.out v2) (by rw [HSt.out]; omega))⟩
            case measure => simp [intOf]; omega
        · have hke : Hid (k = L.length) := Lib.hid (by have := HLn.out; omega)
          go_wp2
          go_roundw
          case rel => exact ⟨s+1, v, by omega, by go_num, rfl, Lib.hid (HT.out.congr (fun j _ => by rw [hke.out]; exact rkT_next L s j))⟩
          case measure => simp [intOf]; omega
    · have hse : Hid (s = bit m) := Lib.hid (by omega)
      go_wp2_with (first | (go_at_call 22; refine (KA.out).mono ?_; rintro e _ ⟨rfl, v2, rfl⟩))
      go_ret
      refine RetP.of (HV.out (v1.up v2)) ⟨g, _, rfl, ?_⟩
      refine (HT.out.keep v2.below).congr (fun j hj => ?_)
      unfold rkT; rw [hse.out, if_pos hj]

end Go.Proofs.Ytdcdhdlklppalaa

namespace Go.Proofs.Ytdcdhdlklppalaa
open Go.RowKit
set_option linter.unusedVariables false

def subAt (r : Nat → Nat) (s i k : Nat) : Prop := r ((s ||| bit i) ||| (s ||| bit k)) + r ((s ||| bit i) &&& (s ||| bit k)) ≤ r (s ||| bit i) + r (s ||| bit k)
theorem rk_le8 (L : List Nat) (s : Nat) : rk L s ≤ 8 := rkTo_le8 L s L.length

set_option maxRecDepth 100000 in
set_option maxHeartbeats 8000000 in
theorem c_refMatroid {B : Nat} {W : World} (u : Later B W) (n : Int) (l : List Int) (a : Option Addr) (cap : Nat) (e : Int) (h : IntsAt B W a l) (hlen : l.length ≤ 4611686018427387904) (he : MatIs n l e) :
    Calls Try.prog 4 #[.agg #[.int .i64 n, .slice a l.length cap]] u.val (Ret B W (.int .i64 e)) := by
  have T0 : Hid (Two (u.val.alloc (.cells #[.int .i64 n, .slice a l.length cap] 24)) u.val.heap.size 24 (.int .i64 n) (.slice a l.length cap)) := Lib.hid (Two.new _ _ _ _)
  have HI : Hid (IntsAt (u.val.alloc (.cells #[.int .i64 n, .slice a l.length cap] 24)).heap.size (u.val.alloc (.cells #[.int .i64 n, .slice a l.length cap] 24)) a l) := Lib.hid (h.to (u.alloc _))
  have hrr : u.val.heap.size < (u.val.alloc (.cells #[.int .i64 n, .slice a l.length cap] 24)).heap.size := by simp
  have HV : Hid (∀ v : Later (u.val.alloc (.cells #[.int .i64 n, .slice a l.length cap] 24)).heap.size (u.val.alloc (.cells #[.int .i64 n, .slice a l.length cap] 24)), ∃ w : Later B W, w.val = v.val) := Lib.hid (fun v => ⟨(u.alloc _).up v, rfl⟩)
  have q0 : ∀ w : Later (u.val.alloc (.cells #[.int .i64 n, .slice a l.length cap] 24)).heap.size (u.val.alloc (.cells #[.int .i64 n, .slice a l.length cap] 24)), w.val.cell? ⟨u.val.heap.size, 0, none⟩ = some (.int .i64 n) := fun w => (T0.out.keep w.below).c0
  have q1 : ∀ w : Later (u.val.alloc (.cells #[.int .i64 n, .slice a l.length cap] 24)).heap.size (u.val.alloc (.cells #[.int .i64 n, .slice a l.length cap] 24)), w.val.cell? ⟨u.val.heap.size, 1, none⟩ = some (.slice a l.length cap) := fun w => (T0.out.keep w.below).c1
  have KF : Hid (∀ x : Bool, x = decide (isFam n l) → Calls Try.prog 19 #[.int .i64 n, .slice a l.length cap] (u.val.alloc (.cells #[.int .i64 n, .slice a l.length cap] 24)) (Ret (u.val.alloc (.cells #[.int .i64 n, .slice a l.length cap] 24)).heap.size (u.val.alloc (.cells #[.int .i64 n, .slice a l.length cap] 24)) (.bool x))) := Lib.hid (fun x hx => by subst hx; exact c_isFamily (Later.self _) n l a cap (h.to (u.alloc _)) (by omega))
  clear h T0
  by_cases hf : isFam n l
  case neg =>
    have K1 := Lib.hid (KF.out false (by simp [hf]))
    have h1 := he.1 (fun h => hf h.1)
    subst h1
    clear hf he KF
    go_enter Try.func4, Try.ntmps4
    go_wp2_with (first | (go_at_call 19; refine (K1.out).mono ?_; rintro e _ ⟨rfl, v1, rfl⟩))
    go_ret
    exact Ret.of (HV.out v1) rfl
  have K1 := Lib.hid (KF.out true (by simp [hf])); clear KF
  by_cases h0 : 0 < l.length
  case neg =>
    have hl0 : l = [] := List.length_eq_zero_iff.1 (by omega)
    have h1 := he.1 (fun h => h.2.1 hl0)
    subst h1 hl0
    clear hf he h0
    go_enter Try.func4, Try.ntmps4
    go_wp2_with (first | (go_at_call 19; refine (K1.out).mono ?_; rintro e _ ⟨rfl, v1, rfl⟩))
    go_ret
    exact Ret.of (HV.out v1) rfl
  have z1 : ((l.length : Int) == 0) = false := by rw [beq_eq_false_iff_ne]; omega
  obtain ⟨m, rfl⟩ := Int.eq_ofNat_of_zero_le hf.1
  have hm : m ≤ 8 := by have := hf.2.1; omega
  have hbm := bit_le m hm
  have HOk : Hid (okM (m : Int) l ↔ ∀ i, i < l.length → sz (l.getD i 0).toNat = sz (l.getD 0 0).toNat) := Lib.hid (by
    unfold okM
    constructor
    · intro h i hi
      have := h.2.2 i (by rw [toN_len]; exact hi)
      rwa [toN_getD, toN_getD] at this
    · intro h
      refine ⟨hf, (by rintro rfl; simp at h0), fun i hi => ?_⟩
      rw [toN_len] at hi
      rw [toN_getD, toN_getD]
      exact h i hi)
  have HF := Lib.hid hf; have HE := Lib.hid he
  clear hf he
  have HN : Hid (∀ i, i < l.length → ∃ s : Nat, l.getD i 0 = s ∧ s < 256) := Lib.hid (fun i hi => by
    have h1 := HF.out.2.2 i hi
    have h2 := all_le (m : Int) HF.out.2.1
    exact ⟨(l.getD i 0).toNat, by omega, by omega⟩)
  have KR := Lib.hid (fun v : Later (u.val.alloc (.cells #[.int .i64 m, .slice a l.length cap] 24)).heap.size (u.val.alloc (.cells #[.int .i64 m, .slice a l.length cap] 24)) => c_refRanks v m hm l a cap HI.out hlen HF.out)
  obtain ⟨x0, hx0, hx08⟩ := HN.out 0 h0
  obtain ⟨b, off, rfl, hbB, hcell⟩ := HI.out.at (k := 0) h0
  have HC := Lib.hid hcell
  have c00 := fun v => hcell v 0 h0
  rw [hx0] at c00
  simp only [Nat.add_zero] at c00
  have HX0 := Lib.hid hx0
  clear hcell hx0
  go_enter Try.func4, Try.ntmps4
  go_wp2_with (first | (go_at_call 19; refine (K1.out).mono ?_; rintro e _ ⟨rfl, v1, rfl⟩))
  clear K1 z1
  generalize hr2 : u.val.heap.size = g at *
  generalize u.val.alloc (.cells #[.int .i64 m, .slice (some ⟨b, off, none⟩) l.length cap] 24) = W1 at *
  clear hr2 u
  have HS0 := Lib.hid (fun v : Later W1.heap.size W1 => c_size v x0 hx08)
  go_loopw [3] (fun i wr => ∃ (k : Nat) (v : Later W1.heap.size W1), k ≤ l.length ∧ i = .int .i64 k ∧ wr = v.val ∧ Hid (∀ i, i < k → sz (l.getD i 0).toNat = sz (l.getD 0 0).toNat)) (fun i _ => l.length - (intOf i).toNat)
  case atStart => exact ⟨0, v1, by omega, rfl, rfl, Lib.hid (fun i hi => by omega)⟩
  case round =>
    clear v1
    obtain ⟨k, v1, hk, rfl, rfl, hfk⟩ := hrel
    by_cases hlt : k < l.length
    · obtain ⟨x, hx, hx8⟩ := HN.out k hlt
      have c0 : ∀ v : Later W1.heap.size W1, v.val.cell? ⟨b, off + k, none⟩ = some (.int .i64 (x : Int)) := fun v => by rw [← hx]; exact HC.out v k hlt
      have HS1 := Lib.hid (fun v : Later W1.heap.size W1 => c_size v x hx8)
      have HX := Lib.hid hx
      clear hx
      have hsx := sz_le x
      have hs0 := sz_le x0
      by_cases hq : sz x = sz x0
      · have HQ := Lib.hid hq
        have hn : Hid (∀ i, i < k + 1 → sz (l.getD i 0).toNat = sz (l.getD 0 0).toNat) := Lib.hid (fun i hi => by
          by_cases c : i = k
          · subst c; rw [HX.out, HX0.out]; exact HQ.out
          · exact hfk.out i (by omega))
        rw [hq] at HS1
        clear hq
        go_wp2
        refine wp_region_later v1 (by kernel_rfl) (by kernel_rfl) (fun _ => ?_)
        repeat (first | go_big_quiet_step ((first | (go_at_call 20; exact HS1.out _) | (go_at_call 20; exact HS0.out _))) | (refine wpQuiet_step (fun K hK => ?_); go_simp; refine ⟨_, fun _ => rfl, ?_⟩; refine hK _ ?_; clear hK K))
        refine wpQuiet_nil ?_
        intro v1
        go_wp2
        go_roundw
        case rel => exact ⟨k+1, v1, by omega, by go_num, rfl, hn⟩
        case measure => simp [intOf]; omega
      · have he1 : e = 1 := HE.out.1 (fun h => hq (by have := HOk.out.1 h k hlt; rw [HX.out, HX0.out] at this; exact this))
        subst he1
        have d1 : (((sz x : Nat) : Int) != ((sz x0 : Nat) : Int)) = true := by rw [bne_iff_ne]; omega
        have d2 : ((sz x) != (sz x0)) = true := by rw [bne_iff_ne]; omega
        clear hq
        generalize sz x = p at *
        generalize sz x0 = p0 at *
        go_wp2
        refine wp_region_later v1 (by kernel_rfl) (by kernel_rfl) (fun _ => ?_)
        repeat (first | go_big_quiet_step ((first | (go_at_call 20; exact HS1.out _) | (go_at_call 20; exact HS0.out _))) | (refine wpQuiet_step (fun K hK => ?_); go_simp; refine ⟨_, fun _ => rfl, ?_⟩; refine hK _ ?_; clear hK K))
        refine wpQuiet_nil ?_
        intro v1
        go_wp2
        go_ret
        exact Ret.of (HV.out v1) rfl
    · have hok : Hid (okM (m : Int) l) := Lib.hid (HOk.out.2 (fun i hi => hfk.out i (by omega)))
      have HEx : Hid (Exch (toN l) ↔ ∀ s, s < bit m → ∀ i, i < m → ∀ k, k < m → subAt (rk (toN l)) s i k) := Lib.hid (by
        have hne : toN l ≠ [] := fun h => hok.out.2.1 (by have := congrArg List.length h; rw [toN_len] at this; exact List.length_eq_zero_iff.1 this)
        exact exch_iff hm hne hok.out.fam8 (by have := fam_lt HF.out; simpa using this))
      have H3 : Hid (¬ (∀ s, s < bit m → ∀ i, i < m → ∀ k, k < m → subAt (rk (toN l)) s i k) → e = 3) := Lib.hid (fun h => HE.out.2.1 hok.out (fun hx => h (HEx.out.1 hx)))
      have H0 : Hid ((∀ s, s < bit m → ∀ i, i < m → ∀ k, k < m → subAt (rk (toN l)) s i k) → e = 0) := Lib.hid (fun h => HE.out.2.2 hok.out (HEx.out.2 h))
      have HR8 := Lib.hid (rk_le8 (toN l))
      clear hfk HEx hok HOk HE HF HN HX0 HS0 c00 HC
      generalize rk (toN l) = r at *
      go_upto_region 9 with (first | (go_at_call 21; refine (KR.out _).mono ?_; rintro e _ ⟨_, rfl, ⟨gt, cpt, rfl, hTab⟩, v2, rfl⟩))
      have HT := Lib.hid hTab
      clear hTab KR
      have hq0 : ∀ w : Later v2.val.heap.size v2.val, w.val.cell? ⟨g, 0, none⟩ = some (.int .i64 m) := fun w => q0 (v2.up w)
      have HV2 : Hid (∀ v : Later v2.val.heap.size v2.val, ∃ w : Later B W, w.val = v.val) := Lib.hid (fun v => HV.out (v2.up v))
      have HTa : Hid (∀ w : Later v2.val.heap.size v2.val, ITab w.val gt (bit m) (fun j => (r j : Int))) := Lib.hid (fun w => HT.out.keep w.below)
      clear q0 q1 HV HT HI hlt hk
      generalize v2.val = W2 at *
      clear v2 v1
      have hbc := bit_cast m
      have KA := Lib.hid (fun w : Later W2.heap.size W2 => c_all w (m : Int) (by omega) (by omega))
      have hla : Hid (all (m : Int) = (bit m : Int) - 1) := Lib.hid (by rw [all_nat]; omega)
      rw [hla.out] at KA
      clear hla
      obtain ⟨y, hy⟩ : ∃ y : Later W2.heap.size W2, y.val = W2 := ⟨Later.self _, rfl⟩
      rw [← hy]
      clear hy
      go_wp2
      go_loopw [5] (fun i wr => ∃ (s : Nat) (v : Later W2.heap.size W2), s ≤ bit m ∧ i = .int .i64 s ∧ wr = v.val ∧ Hid (∀ s', s' < s → ∀ i, i < m → ∀ k, k < m → subAt r s' i k)) (fun i _ => bit m - (intOf i).toNat)
      case atStart => exact ⟨0, y, by omega, rfl, rfl, Lib.hid (fun s' h => by omega)⟩
      case round =>
        clear y
        obtain ⟨s, y, hs, rfl, rfl, hfs⟩ := hrel
        rcases ile (s : Int) ((bit m : Int) - 1) with ⟨hlt, e0⟩ | ⟨hlt, e0⟩
        case inr =>
          have he0 : e = 0 := H0.out (fun s' h => hfs.out s' (by omega))
          subst he0
          go_wp2_with (first | (go_at_call 22; refine (KA.out _).mono ?_; rintro e _ ⟨rfl, y2, rfl⟩))
          go_ret
          exact Ret.of (HV2.out y2) rfl
        have hsb : s < bit m := by omega
        go_wp2_with (first | (go_at_call 22; refine (KA.out _).mono ?_; rintro e _ ⟨rfl, y2, rfl⟩))
        go_loopw [6] (fun i wr => ∃ (i' : Nat) (v : Later W2.heap.size W2), i' ≤ m ∧ i = .int .i64 i' ∧ wr = v.val ∧ Hid (∀ i, i < i' → ∀ k, k < m → subAt r s i k)) (fun i _ => m - (intOf i).toNat)
        case atStart => exact ⟨0, y2, by omega, rfl, rfl, Lib.hid (fun s' h => by omega)⟩
        case round =>
          clear y y2
          obtain ⟨i, y, hi, rfl, rfl, hfi⟩ := hrel
          by_cases hlt2 : i < m
          · go_wp2
            go_loopw [7] (fun j wr => ∃ (k : Nat) (v : Later W2.heap.size W2), k ≤ m ∧ j = .int .i64 k ∧ wr = v.val ∧ Hid (∀ k', k' < k → subAt r s i k')) (fun j _ => m - (intOf j).toNat)
            case atStart => exact ⟨0, y, by omega, rfl, rfl, Lib.hid (fun s' h => by omega)⟩
            case round =>
              clear y
              obtain ⟨k2, y, hk2, rfl, rfl, hfk⟩ := hrel
              by_cases hlt3 : k2 < m
              · have b1 := bit_lt i (by omega)
                have b2 := bit_lt k2 (by omega)
                have bc1 := bit_cast i
                have bc2 := bit_cast k2
                have w1 := IntWalk.i64_in (bit i : Int) (by omega)
                have w2 := IntWalk.i64_in (bit k2 : Int) (by omega)
                have o1 := i64_or s (bit i) (by omega) (by omega)
                have o2 := i64_or s (bit k2) (by omega) (by omega)
                have l1 : s ||| bit i < bit m := or_lt_bit hsb (bit_lt_bit hlt2)
                have l2 : s ||| bit k2 < bit m := or_lt_bit hsb (bit_lt_bit hlt3)
                have HSA : Hid (subAt r s i k2 ↔ r ((s ||| bit i) ||| (s ||| bit k2)) + r ((s ||| bit i) &&& (s ||| bit k2)) ≤ r (s ||| bit i) + r (s ||| bit k2)) := Lib.hid Iff.rfl
                generalize s ||| bit i = p at *
                generalize s ||| bit k2 = q at *
                have o3 := i64_or p q (by omega) (by omega)
                have o4 := i64_and p q (by omega) (by omega)
                have l3 : p ||| q < bit m := or_lt_bit l1 l2
                have l4 : p &&& q < bit m := and_lt_bit _ l1
                have t1 : ∀ w : Later W2.heap.size W2, w.val.cell? ⟨gt, p, none⟩ = some (.int .i64 (r p : Int)) := fun w => (HTa.out w).cell l1
                have t2 : ∀ w : Later W2.heap.size W2, w.val.cell? ⟨gt, q, none⟩ = some (.int .i64 (r q : Int)) := fun w => (HTa.out w).cell l2
                have t3 : ∀ w : Later W2.heap.size W2, w.val.cell? ⟨gt, p ||| q, none⟩ = some (.int .i64 (r (p ||| q) : Int)) := fun w => (HTa.out w).cell l3
                have t4 : ∀ w : Later W2.heap.size W2, w.val.cell? ⟨gt, p &&& q, none⟩ = some (.int .i64 (r (p &&& q) : Int)) := fun w => (HTa.out w).cell l4
                have r1 := HR8.out p
                have r2 := HR8.out q
                have r3 := HR8.out (p ||| q)
                have r4 := HR8.out (p &&& q)
                generalize r p = rp at *
                generalize r q = rq at *
                generalize r (p ||| q) = ro at *
                generalize r (p &&& q) = ra at *
                generalize p ||| q = po at *
                generalize p &&& q = pa at *
                have w3 := IntWalk.i64_in ((rp : Int) + (rq : Int)) (by omega)
                have w4 := IntWalk.i64_in ((ro : Int) + (ra : Int)) (by omega)
                rcases ilt ((rp : Int) + (rq : Int)) ((ro : Int) + (ra : Int)) with ⟨g1, d1⟩ | ⟨g1, d1⟩
                · have he3 : e = 3 := H3.out (fun h => by have := HSA.out.1 (h s hsb i hlt2 k2 hlt3); omega)
                  subst he3
                  clear HSA
                  go_wp2
                  refine wp_region_later y (by kernel_rfl) (by kernel_rfl) (fun _ => ?_)
                  repeat (first | go_big_quiet_step ((fail)) | (refine wpQuiet_step (fun K hK => ?_); go_simp; refine ⟨_, fun _ => rfl, ?_⟩; refine hK _ ?_; clear hK K))
                  refine wpQuiet_nil ?_
                  intro y
                  go_wp2
                  refine wp_region_later y (by kernel_rfl) (by kernel_rfl) (fun _ => ?_)
                  repeat (first | go_big_quiet_step ((fail)) | (refine wpQuiet_step (fun K hK => ?_); go_simp; refine ⟨_, fun _ => rfl, ?_⟩; refine hK _ ?_; clear hK K))
                  refine wpQuiet_nil ?_
                  intro y
                  go_wp2
                  go_ret
                  exact Ret.of (HV2.out y) rfl
                · have hn : Hid (∀ k', k' < k2 + 1 → subAt r s i k') := Lib.hid (fun k' hk' => by
                    by_cases c : k' = k2
                    · subst c; exact HSA.out.2 (by omega)
                    · exact hfk.out k' (by omega))
                  clear HSA
                  go_wp2
                  refine wp_region_later y (by kernel_rfl) (by kernel_rfl) (fun _ => ?_)
                  repeat (first | go_big_quiet_step ((fail)) | (refine wpQuiet_step (fun K hK => ?_); go_simp; refine ⟨_, fun _ => rfl, ?_⟩; refine hK _ ?_; clear hK K))
                  refine wpQuiet_nil ?_
                  intro y
                  go_wp2
                  refine wp_region_later y (by kernel_rfl) (by kernel_rfl) (fun _ => ?_)
                  repeat (first | go_big_quiet_step ((fail)) | (refine wpQuiet_step (fun K hK => ?_); go_simp; refine ⟨_, fun _ => rfl, ?_⟩; refine hK _ ?_; clear hK K))
                  refine wpQuiet_nil ?_
                  intro y
                  go_wp2
                  go_roundw
                  case rel => exact ⟨k2+1, y, by omega, by go_num, rfl, hn⟩
                  case measure => simp [intOf]; omega
              · have hn : Hid (∀ i', i' < i + 1 → ∀ k, k < m → subAt r s i' k) := Lib.hid (fun i' hi' k' hk' => by
                  by_cases c : i' = i
                  · subst c; exact hfk.out k' (by omega)
                  · exact hfi.out i' (by omega) k' hk')
                go_wp2
                go_roundw
                case rel => exact ⟨i+1, y, by omega, by go_num, rfl, hn⟩
                case measure => simp [intOf]; omega
          · have hn : Hid (∀ s', s' < s + 1 → ∀ i, i < m → ∀ k, k < m → subAt r s' i k) := Lib.hid (fun s' hs' i' hi' k' hk' => by
              by_cases c : s' = s
              · subst c; exact hfi.out i' (by omega) k' hk'
              · exact hfs.out s' (by omega) i' hi' k' hk')
            go_wp2
            go_roundw
            case rel => exact ⟨s+1, y, by omega, by go_num, rfl, hn⟩
            case measure => simp [intOf]; omega

end Go.Proofs.Ytdcdhdlklppalaa

namespace Go.Proofs.Ytdcdhdlklppalaa
open Go.RowKit
set_option linter.unusedVariables false

theorem MatIs.zero {n : Int} {l : List Int} (h : MatIs n l 0) : okM n l ∧ Exch (toN l) := by
  by_cases hk : okM n l
  · by_cases hx : Exch (toN l)
    · exact ⟨hk, hx⟩
    · have := h.2.1 hk hx; omega
  · have := h.1 hk; omega

/-- what greedy.two answers -/
def twoE (l : List Int) (e A B : Int) : Int := if e = 0 then (if A ∈ l ∧ B ∈ l then 0 else 1) else e

end Go.Proofs.Ytdcdhdlklppalaa
