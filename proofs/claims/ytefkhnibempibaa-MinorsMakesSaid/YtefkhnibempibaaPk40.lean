
/-
  minors.Classes.
  minors.Simple.
-/
import Derived.Test.YtefkhnibempibaaPk39
import Derived.Test.YtefkhnibempibaaPk21
import Derived.Test.YtefkhnibempibaaPk27
namespace Go.Proofs.Ytefkhnibempibaa
open Go.RowKit
set_option linter.unusedVariables false

theorem pcTo_start (L : List Nat) (i : Nat) : pcTo L i (i + 1) = bit i := by
  apply Nat.eq_of_testBit_eq
  intro j
  rw [Bool.eq_iff_iff, pcTo_testBit, testBit_bit, decide_eq_true_eq]
  constructor
  · rintro (h | ⟨h1, h2, _⟩)
    · exact h.symm
    · omega
  · exact fun h => .inl h.symm
theorem pcTo_yes {L : List Nat} {i k : Nat} (hik : i < k) (h1 : rk L (bit k) = rk L (bit i)) (h2 : rk L (bit i ||| bit k) = rk L (bit i)) : pcTo L i (k + 1) = pcTo L i k ||| bit k := by
  rw [pcTo, if_pos ⟨hik, par_iff.2 ⟨h1, h2⟩⟩]
theorem pcTo_no {L : List Nat} {i k : Nat} (h : ¬ (rk L (bit k) = rk L (bit i) ∧ rk L (bit i ||| bit k) = rk L (bit i))) : pcTo L i (k + 1) = pcTo L i k := by
  rw [pcTo, if_neg (fun c => h (par_iff.1 c.2))]
theorem clsT_lt {L : List Nat} {m : Nat} : ∀ i, i ≤ m → (clsT L m i).1 < bit m ∧ (clsT L m i).2.length ≤ i
  | 0, _ => ⟨bit_pos m, Nat.le_refl _⟩
  | i + 1, h => by
    obtain ⟨h1, h2⟩ := clsT_lt (L := L) (m := m) i (by omega)
    rw [clsT]
    split
    · exact ⟨h1, by omega⟩
    · refine ⟨Nat.or_lt_two_pow h1 (pcTo_lt (by omega) m (Nat.le_refl _)), ?_⟩
      rw [List.length_append]
      simp
      omega

set_option maxRecDepth 100000 in
set_option maxHeartbeats 4000000 in
theorem c_minClasses_no {B : Nat} {W : World} (u : Later B W) (n : Int) (l : List Int) (a : Option Addr) (cap : Nat) (e : Int) (h : IntsAt B W a l) (hlen : l.length ≤ 4611686018427387904) (he : MatIs n l e) (h0 : e ≠ 0) :
    Calls Try.prog 20 #[.agg #[.int .i64 n, .slice a l.length cap]] u.val (RetP B W (ListE [] e)) := by
  have T0 : Hid (Two (u.val.alloc (.cells #[.int .i64 n, .slice a l.length cap] 24)) u.val.heap.size 24 (.int .i64 n) (.slice a l.length cap)) := Lib.hid (Two.new _ _ _ _)
  have hrr : u.val.heap.size < (u.val.alloc (.cells #[.int .i64 n, .slice a l.length cap] 24)).heap.size := by simp
  have hI : IntsAt (u.val.alloc (.cells #[.int .i64 n, .slice a l.length cap] 24)).heap.size (u.val.alloc (.cells #[.int .i64 n, .slice a l.length cap] 24)) a l := h.to (u.alloc _)
  have HV : Hid (∀ v : Later (u.val.alloc (.cells #[.int .i64 n, .slice a l.length cap] 24)).heap.size (u.val.alloc (.cells #[.int .i64 n, .slice a l.length cap] 24)), ∃ w : Later B W, w.val = v.val) := Lib.hid (fun v => ⟨(u.alloc _).up v, rfl⟩)
  have q0 : ∀ w : Later (u.val.alloc (.cells #[.int .i64 n, .slice a l.length cap] 24)).heap.size (u.val.alloc (.cells #[.int .i64 n, .slice a l.length cap] 24)), w.val.cell? ⟨u.val.heap.size, 0, none⟩ = some (.int .i64 n) := fun w => (T0.out.keep w.below).c0
  have q1 : ∀ w : Later (u.val.alloc (.cells #[.int .i64 n, .slice a l.length cap] 24)).heap.size (u.val.alloc (.cells #[.int .i64 n, .slice a l.length cap] 24)), w.val.cell? ⟨u.val.heap.size, 1, none⟩ = some (.slice a l.length cap) := fun w => (T0.out.keep w.below).c1
  have p0 : (u.val.alloc (.cells #[.int .i64 n, .slice a l.length cap] 24)).cell? ⟨u.val.heap.size, 0, none⟩ = some (.int .i64 n) := T0.out.c0
  have p1 : (u.val.alloc (.cells #[.int .i64 n, .slice a l.length cap] 24)).cell? ⟨u.val.heap.size, 1, none⟩ = some (.slice a l.length cap) := T0.out.c1
  have KR : Hid (Calls Try.prog 50 #[.agg #[.int .i64 n, .slice a l.length cap]] (u.val.alloc (.cells #[.int .i64 n, .slice a l.length cap] 24)) (RetP (u.val.alloc (.cells #[.int .i64 n, .slice a l.length cap] 24)).heap.size (u.val.alloc (.cells #[.int .i64 n, .slice a l.length cap] 24)) (ListE [] e))) := Lib.hid (c_axRanks_no (Later.self (u.val.alloc (.cells #[.int .i64 n, .slice a l.length cap] 24))) n l a cap e hI hlen he h0)
  have d0 : (e != 0) = true := by rw [bne_iff_ne]; exact h0
  clear h hI he h0 T0
  go_enter Try.func20, Try.ntmps20
  go_wp2_with (first | (go_at_call 50; (with_reducible refine (KR.out).mono ?_); rintro e _ ⟨_, rfl, ⟨x, rfl, hr⟩, v1, rfl⟩))
  go_ret2
  exact RetP.of (HV.out v1) ListE.no

set_option maxRecDepth 100000 in
set_option maxHeartbeats 16000000 in
theorem c_minClasses {B : Nat} {W : World} (u : Later B W) (m r : Nat) (hm : m ≤ 8) (L : List Nat) (hne : L ≠ []) (hF : Fam8 L r) (hE : Exch L) (a : Option Addr) (cap : Nat) (h : IntsAt B W a (ints L)) (hlen : (ints L).length ≤ 4611686018427387904) (he : MatIs (m : Int) (ints L) 0) :
    Calls Try.prog 20 #[.agg #[.int .i64 m, .slice a (ints L).length cap]] u.val (RetP B W (ListO B (ints (those m (clsP m L))) 0)) := by
  have hB := u.size
  have hb := bit_le m hm
  have T0 : Hid (Two (u.val.alloc (.cells #[.int .i64 (m : Int), .slice a (ints L).length cap] 24)) u.val.heap.size 24 (.int .i64 (m : Int)) (.slice a (ints L).length cap)) := Lib.hid (Two.new _ _ _ _)
  have hrr : u.val.heap.size < (u.val.alloc (.cells #[.int .i64 (m : Int), .slice a (ints L).length cap] 24)).heap.size := by simp
  have hI : IntsAt (u.val.alloc (.cells #[.int .i64 (m : Int), .slice a (ints L).length cap] 24)).heap.size (u.val.alloc (.cells #[.int .i64 (m : Int), .slice a (ints L).length cap] 24)) a (ints L) := h.to (u.alloc _)
  have HV : Hid (∀ v : Later (u.val.alloc (.cells #[.int .i64 (m : Int), .slice a (ints L).length cap] 24)).heap.size (u.val.alloc (.cells #[.int .i64 (m : Int), .slice a (ints L).length cap] 24)), ∃ w : Later B W, w.val = v.val) := Lib.hid (fun v => ⟨(u.alloc _).up v, rfl⟩)
  have q0 : ∀ w : Later (u.val.alloc (.cells #[.int .i64 (m : Int), .slice a (ints L).length cap] 24)).heap.size (u.val.alloc (.cells #[.int .i64 (m : Int), .slice a (ints L).length cap] 24)), w.val.cell? ⟨u.val.heap.size, 0, none⟩ = some (.int .i64 (m : Int)) := fun w => (T0.out.keep w.below).c0
  have q1 : ∀ w : Later (u.val.alloc (.cells #[.int .i64 (m : Int), .slice a (ints L).length cap] 24)).heap.size (u.val.alloc (.cells #[.int .i64 (m : Int), .slice a (ints L).length cap] 24)), w.val.cell? ⟨u.val.heap.size, 1, none⟩ = some (.slice a (ints L).length cap) := fun w => (T0.out.keep w.below).c1
  have p0 : (u.val.alloc (.cells #[.int .i64 (m : Int), .slice a (ints L).length cap] 24)).cell? ⟨u.val.heap.size, 0, none⟩ = some (.int .i64 (m : Int)) := T0.out.c0
  have p1 : (u.val.alloc (.cells #[.int .i64 (m : Int), .slice a (ints L).length cap] 24)).cell? ⟨u.val.heap.size, 1, none⟩ = some (.slice a (ints L).length cap) := T0.out.c1
  have KR : Hid (Calls Try.prog 50 #[.agg #[.int .i64 m, .slice a (ints L).length cap]] (u.val.alloc (.cells #[.int .i64 (m : Int), .slice a (ints L).length cap] 24)) (RetP (u.val.alloc (.cells #[.int .i64 (m : Int), .slice a (ints L).length cap] 24)).heap.size (u.val.alloc (.cells #[.int .i64 (m : Int), .slice a (ints L).length cap] 24)) (fun v w => ∃ g c, v = .tuple #[.slice (some ⟨g, 0, none⟩) (bit m) c, .int .i64 0] ∧ ITab w g (bit m) (fun j => (rk L j : Int)) ∧ (u.val.alloc (.cells #[.int .i64 (m : Int), .slice a (ints L).length cap] 24)).heap.size ≤ g))) := Lib.hid (by
    have := c_axRanksB (Later.self (u.val.alloc (.cells #[.int .i64 (m : Int), .slice a (ints L).length cap] 24))) m hm (ints L) a cap hI hlen he
    rw [toN_ints] at this
    exact this)
  have HSame := Lib.hid (cls_same hm hne hF hE)
  have HLt := Lib.hid (fun i hi => clsT_lt (L := L) (m := m) i hi)
  have Q0 := Lib.hid q0
  clear h hI he T0 hne hF hE hlen
  go_enter Try.func20, Try.ntmps20
  go_upto_region 4 with (first | (go_at_call 50; (with_reducible refine (KR.out).mono ?_); rintro e _ ⟨_, rfl, ⟨g, c, rfl, hT, hgB⟩, v1, rfl⟩))
  have HT := Lib.hid hT
  have HV1 : Hid (∀ y : Later v1.val.heap.size v1.val, ∃ w : Later B W, w.val = y.val) := Lib.hid (fun y => HV.out (v1.up y))
  have Q1 : Hid (∀ w : Later v1.val.heap.size v1.val, w.val.cell? ⟨u.val.heap.size, 0, none⟩ = some (.int .i64 m)) := Lib.hid (fun w => Q0.out (v1.up w))
  have HB2 : Hid (B ≤ v1.val.heap.size) := Lib.hid (by have := v1.size; simp at this; omega)
  obtain ⟨y, hy⟩ : ∃ y : Later v1.val.heap.size v1.val, y.val = v1.val := ⟨Later.self _, rfl⟩
  rw [← hy]
  clear hy hT hgB HV KR q0 q1 p0 p1 hrr Q0
  generalize v1.val = V at *
  generalize u.val.heap.size = gu at *
  clear v1
  have qy := Q1.out y
  go_wp2
  go_loopw [6, 7, 21] (fun t sn i wr => ∃ (k : Nat) (ad : Option Addr) (cp : Nat) (v : Later V.heap.size V), k ≤ m ∧ t = .slice ad (ints (clsT L m k).2).length cp ∧ sn = .int .i64 (clsT L m k).1 ∧ i = .int .i64 k ∧ wr = v.val ∧ Hid (Own V.heap.size v.val ad cp (ints (clsT L m k).2))) (fun _ _ i _ => m - (intOf i).toNat)
  case atStart => exact ⟨0, none, 0, y, by omega, rfl, rfl, rfl, rfl, Lib.hid (Own.nil _ _)⟩
  case round =>
    clear y qy
    obtain ⟨k, ad, cp, v, hk, rfl, rfl, rfl, rfl, HO⟩ := hrel
    have qv := Q1.out v
    by_cases hlt : k < m
    · obtain ⟨hs1, hl1⟩ := HLt.out k hk
      by_cases hbt : (clsT L m k).1.testBit k = true
      · have HS : Hid (clsT L m (k + 1) = clsT L m k) := Lib.hid (by rw [clsT, if_pos hbt])
        have s1 := shr_and (clsT L m k).1 k (by omega)
        rw [hbt] at s1
        have HL2 := Lib.hid (show (ints (clsT L m k).2).length = (ints (clsT L m k).2).length from rfl)
        clear hbt
        generalize clsT L m k = st at *
        go_wp2
        go_roundw
        case rel => exact ⟨k+1, ad, cp, v, by omega, by rw [HS.out], by rw [HS.out], by go_num, rfl, by rw [HS.out]; exact HO⟩
        case measure => simp [intOf]; omega
      · have hbf : (clsT L m k).1.testBit k = false := by
          cases c : (clsT L m k).1.testBit k
          · rfl
          · exact absurd c hbt
        have HS : Hid (clsT L m (k + 1) = ((clsT L m k).1 ||| pcTo L k m, (clsT L m k).2 ++ [pcTo L k m])) := Lib.hid (by rw [clsT, if_neg hbt])
        have s1 := shr_and (clsT L m k).1 k (by omega)
        rw [hbf] at s1
        have bc := bit_cast k
        rw [bc] at s1
        have bd := bit_lt k (by omega)
        have w1 := IntWalk.i64_in (bit k : Int) (by omega)
        have Hst := Lib.hid hs1
        have Hln := Lib.hid hl1
        have HP := Lib.hid (fun j hj => pcTo_lt (L := L) hlt j hj)
        have HP0 := Lib.hid (pcTo_start L k)
        have HPy := Lib.hid (fun j (hj : k < j) => pcTo_yes (L := L) hj)
        have HPn := Lib.hid (fun j => pcTo_no (L := L) (i := k) (k := j))
        clear hbt hbf hs1 hl1
        generalize clsT L m k = st at *
        go_wp2
        go_loopw [9, 10] (fun c' i wr => ∃ (j : Nat) (v2 : Later V.heap.size V), k + 1 ≤ j ∧ j ≤ m ∧ c' = .int .i64 (pcTo L k j) ∧ i = .int .i64 j ∧ wr = v2.val ∧ Hid (Own V.heap.size v2.val ad cp (ints st.2))) (fun _ i _ => m - (intOf i).toNat)
        case atStart => exact ⟨k+1, v, by omega, by omega, by rw [HP0.out], by go_num, rfl, HO⟩
        case round =>
          clear qv HO HP0 w1 s1
          obtain ⟨j, v2, hkj, hj, rfl, rfl, rfl, HO⟩ := hrel
          have qv := Q1.out v2
          by_cases hjm : j < m
          · have hpl := HP.out j hj
            have bj := bit_lt j (by omega)
            have bjc := bit_cast j
            have HTw : ∀ w : Later v2.val.heap.size v2.val, ITab w.val g (bit m) (fun j => (rk L j : Int)) := fun w => (HT.out.keep v2.below).keep w.below
            have hbj : bit j < bit m := bit_lt_bit hjm
            have hbk : bit k < bit m := bit_lt_bit hlt
            have hbo : bit k ||| bit j < bit m := Nat.or_lt_two_pow hbk hbj
            have c1 : ∀ w : Later v2.val.heap.size v2.val, w.val.cell? ⟨g, bit j, none⟩ = some (.int .i64 (rk L (bit j) : Int)) := fun w => (HTw w).cell hbj
            have c2 : ∀ w : Later v2.val.heap.size v2.val, w.val.cell? ⟨g, bit k, none⟩ = some (.int .i64 (rk L (bit k) : Int)) := fun w => (HTw w).cell hbk
            have c3 : ∀ w : Later v2.val.heap.size v2.val, w.val.cell? ⟨g, bit k ||| bit j, none⟩ = some (.int .i64 (rk L (bit k ||| bit j) : Int)) := fun w => (HTw w).cell hbo
            have o1 := i64_or (bit k) (bit j) (by omega) (by omega)
            have o2 := i64_or (pcTo L k j) (bit j) (by omega) (by omega)
            have w2 := IntWalk.i64_in (bit j : Int) (by omega)
            have w1 := IntWalk.i64_in (bit k : Int) (by omega)
            have l1 : ((bit j : Nat) : Int) < (bit m : Int) := by omega
            have l2 : ((bit k : Nat) : Int) < (bit m : Int) := by omega
            have l3 : ((bit k ||| bit j : Nat) : Int) < (bit m : Int) := by omega
            have Y := Lib.hid (HPy.out j (by omega))
            have N := Lib.hid (HPn.out j)
            clear HTw hpl
            obtain ⟨jj, hjj⟩ : ∃ jj, bit k ||| bit j = jj := ⟨_, rfl⟩
            rw [hjj] at c3 o1 l3 Y N
            clear hjj
            generalize pcTo L k j = p at *
            generalize rk L (bit j) = ra at *
            generalize rk L (bit k) = rb at *
            generalize rk L jj = rc at *
            by_cases g1 : ra = rb
            · subst g1
              by_cases g2 : rc = ra
              · subst g2
                have HY := Lib.hid (Y.out rfl rfl)
                clear Y N
                go_upto_region 14 with fail
                obtain ⟨v3, hv3⟩ : ∃ v3 : Later v2.val.heap.size v2.val, v3.val = v2.val := ⟨Later.self _, rfl⟩
                rw [← hv3]
                clear hv3
                refine wp_region_later v3 (by kernel_rfl) (by kernel_rfl) (fun _ => ?_)
                repeat (first | go_big_quiet_step ((fail)) | (refine wpQuiet_step (fun K hK => ?_); go_simp; refine ⟨_, fun _ => rfl, ?_⟩; refine hK _ ?_; clear hK K))
                refine wpQuiet_nil ?_
                intro v3
                go_wp2
                go_roundw
                case rel => exact ⟨j+1, v2.up v3, by omega, by omega, by rw [HY.out], by go_num, rfl, HO.out.keep v3.below⟩
                case measure => simp [intOf]; omega
              · have d2 : ((rc : Int) == (ra : Int)) = false := by simp; omega
                have HN := Lib.hid (N.out (fun h => g2 h.2))
                clear Y N
                go_upto_region 14 with fail
                obtain ⟨v3, hv3⟩ : ∃ v3 : Later v2.val.heap.size v2.val, v3.val = v2.val := ⟨Later.self _, rfl⟩
                rw [← hv3]
                clear hv3
                refine wp_region_later v3 (by kernel_rfl) (by kernel_rfl) (fun _ => ?_)
                repeat (first | go_big_quiet_step ((fail)) | (refine wpQuiet_step (fun K hK => ?_); go_simp; refine ⟨_, fun _ => rfl, ?_⟩; refine hK _ ?_; clear hK K))
                refine wpQuiet_nil ?_
                intro v3
                go_wp2
                go_roundw
                case rel => exact ⟨j+1, v2.up v3, by omega, by omega, by rw [HN.out], by go_num, rfl, HO.out.keep v3.below⟩
                case measure => simp [intOf]; omega
            · have d2 : ((ra : Int) == (rb : Int)) = false := by simp; omega
              have HN := Lib.hid (N.out (fun h => g1 h.1))
              clear Y N
              go_upto_region 14 with fail
              obtain ⟨v3, hv3⟩ : ∃ v3 : Later v2.val.heap.size v2.val, v3.val = v2.val := ⟨Later.self _, rfl⟩
              rw [← hv3]
              clear hv3
              refine wp_region_later v3 (by kernel_rfl) (by kernel_rfl) (fun _ => ?_)
              repeat (first | go_big_quiet_step ((fail)) | (refine wpQuiet_step (fun K hK => ?_); go_simp; refine ⟨_, fun _ => rfl, ?_⟩; refine hK _ ?_; clear hK K))
              refine wpQuiet_nil ?_
              intro v3
              go_wp2
              go_roundw
              case rel => exact ⟨j+1, v2.up v3, by omega, by omega, by rw [HN.out], by go_num, rfl, HO.out.keep v3.below⟩
              case measure => simp [intOf]; omega
          · have hje : j = m := by omega
            subst hje
            have hpm := HP.out j (Nat.le_refl _)
            have o2 := i64_or st.1 (pcTo L k j) (by have := Hst.out; omega) (by omega)
            have HTl : (ints st.2).length + 1 ≤ 1099511627776 := by have := Hln.out; rw [ints_len]; omega
            obtain ⟨v3, hv3⟩ : ∃ v3 : Later v2.val.heap.size v2.val, v3.val = v2.val := ⟨Later.self _, rfl⟩
            rw [← hv3]
            clear hv3
            generalize pcTo L k j = p at *
            generalize st.1 = sn at *
            generalize st.2 = T at *
            have qv3 : v3.val.cell? ⟨gu, 0, none⟩ = some (.int .i64 j) := Q1.out (v2.up v3)
            go_wp2_with (first | (at_builtin; refine wpList_push (B := V.heap.size) (W := V) (w := v3.val) (v2.up v3).below (v2.up v3).size rfl _ _ rfl (ints T) ad cp (p : Int) rfl (HO.out.keep v3.below) rfl (by omega) ?_; intro u2 ad2 cp2 hown))
            go_roundw
            case rel => exact ⟨k+1, ad2, cp2, u2, by omega, by rw [HS.out, ints_snoc]; simp, by rw [HS.out], by go_num, rfl, by rw [HS.out, ints_snoc]; exact hown⟩
            case measure => simp [intOf]; omega
    · have hke : k = m := by omega
      subst hke
      have hl := (HLt.out k (Nat.le_refl _)).2
      have K1 : Hid (Calls Try.prog 51 #[.slice ad (ints (clsT L k k).2).length cp] v.val (fun e w' => e = .returned (.tuple #[]) ∧ ∃ v4 : Later V.heap.size V, w' = v4.val ∧ Own V.heap.size v4.val ad cp (srt (ints (clsT L k k).2)) ∧ (∀ k', k' < v.val.heap.size → (∀ off, ad ≠ some ⟨k', off, none⟩) → v4.val.heap[k']? = v.val.heap[k']?))) := Lib.hid (c_sort v (ints (clsT L k k).2) ad cp HO.out (by rw [ints_len]; omega))
      have HLn : Hid ((ints (clsT L k k).2).length = (ints (those k (clsP k L))).length) := Lib.hid (by rw [← HSame.out, srt_len])
      rw [HSame.out, HLn.out] at K1
      rw [HLn.out]
      generalize ints (those k (clsP k L)) = A at *
      clear HSame HO HLn
      go_wp2_with (first | (go_at_call 51; (with_reducible refine (K1.out).mono ?_); rintro e _ ⟨rfl, v4, rfl, hO4, _⟩))
      go_ret2
      exact RetP.of (HV1.out v4) ⟨ad, cp, rfl, hO4.mono HB2.out⟩

end Go.Proofs.Ytefkhnibempibaa

namespace Go.Proofs.Ytefkhnibempibaa
open Go.RowKit
set_option linter.unusedVariables false

theorem gnT_lt {L : List Nat} {m : Nat} {C : List Nat} (hC : ∀ q, q < C.length → C.getD q 0 < bit m) : ∀ q, q ≤ C.length → gnT m L C q < bit m
  | 0, _ => bit_pos m
  | q + 1, h => by
    have ih := gnT_lt (L := L) (m := m) hC q (by omega)
    have hc := hC q (by omega)
    have ho : gnT m L C q ||| C.getD q 0 < bit m := Nat.or_lt_two_pow ih hc
    rw [gnT]
    split
    · exact Nat.lt_of_le_of_lt (nand_le _ _) ho
    · exact ho

set_option maxRecDepth 100000 in
set_option maxHeartbeats 4000000 in
theorem c_minSimple_no {B : Nat} {W : World} (u : Later B W) (n : Int) (l : List Int) (a : Option Addr) (cap : Nat) (e : Int) (h : IntsAt B W a l) (hlen : l.length ≤ 4611686018427387904) (he : MatIs n l e) (h0 : e ≠ 0) :
    Calls Try.prog 22 #[.agg #[.int .i64 n, .slice a l.length cap]] u.val (RetP B W (MatTO B 0 [] e)) := by
  have hB := u.size
  have T0 : Hid (Two (u.val.alloc (.cells #[.int .i64 n, .slice a l.length cap] 24)) u.val.heap.size 24 (.int .i64 n) (.slice a l.length cap)) := Lib.hid (Two.new _ _ _ _)
  have hrr : u.val.heap.size < (u.val.alloc (.cells #[.int .i64 n, .slice a l.length cap] 24)).heap.size := by simp
  have hI : IntsAt (u.val.alloc (.cells #[.int .i64 n, .slice a l.length cap] 24)).heap.size (u.val.alloc (.cells #[.int .i64 n, .slice a l.length cap] 24)) a l := h.to (u.alloc _)
  have HV : Hid (∀ v : Later (u.val.alloc (.cells #[.int .i64 n, .slice a l.length cap] 24)).heap.size (u.val.alloc (.cells #[.int .i64 n, .slice a l.length cap] 24)), ∃ w : Later B W, w.val = v.val) := Lib.hid (fun v => ⟨(u.alloc _).up v, rfl⟩)
  have q0 : ∀ w : Later (u.val.alloc (.cells #[.int .i64 n, .slice a l.length cap] 24)).heap.size (u.val.alloc (.cells #[.int .i64 n, .slice a l.length cap] 24)), w.val.cell? ⟨u.val.heap.size, 0, none⟩ = some (.int .i64 n) := fun w => (T0.out.keep w.below).c0
  have q1 : ∀ w : Later (u.val.alloc (.cells #[.int .i64 n, .slice a l.length cap] 24)).heap.size (u.val.alloc (.cells #[.int .i64 n, .slice a l.length cap] 24)), w.val.cell? ⟨u.val.heap.size, 1, none⟩ = some (.slice a l.length cap) := fun w => (T0.out.keep w.below).c1
  have p0 : (u.val.alloc (.cells #[.int .i64 n, .slice a l.length cap] 24)).cell? ⟨u.val.heap.size, 0, none⟩ = some (.int .i64 n) := T0.out.c0
  have p1 : (u.val.alloc (.cells #[.int .i64 n, .slice a l.length cap] 24)).cell? ⟨u.val.heap.size, 1, none⟩ = some (.slice a l.length cap) := T0.out.c1
  have hM1 : (u.val.alloc (.cells #[.int .i64 n, .slice a l.length cap] 24)).heap.size = u.val.heap.size + 1 := by simp
  have XM : RowL ((u.val.alloc (.cells #[.int .i64 n, .slice a l.length cap] 24)).alloc (.cells #[.int .i64 0, .slice none 0 0] 24)) (u.val.alloc (.cells #[.int .i64 n, .slice a l.length cap] 24)).heap.size 24 [.int .i64 0, .slice none 0 0] := RowL.new _ _ _
  rw [hM1] at XM
  have HX := Lib.hid XM
  have hgr : u.val.heap.size + 1 < ((u.val.alloc (.cells #[.int .i64 n, .slice a l.length cap] 24)).alloc (.cells #[.int .i64 0, .slice none 0 0] 24)).heap.size := XM.lt
  have KC : Hid (Calls Try.prog 20 #[.agg #[.int .i64 n, .slice a l.length cap]] ((u.val.alloc (.cells #[.int .i64 n, .slice a l.length cap] 24)).alloc (.cells #[.int .i64 0, .slice none 0 0] 24)) (RetP ((u.val.alloc (.cells #[.int .i64 n, .slice a l.length cap] 24)).alloc (.cells #[.int .i64 0, .slice none 0 0] 24)).heap.size ((u.val.alloc (.cells #[.int .i64 n, .slice a l.length cap] 24)).alloc (.cells #[.int .i64 0, .slice none 0 0] 24)) (ListE [] e))) := Lib.hid (c_minClasses_no (Later.self _) n l a cap e (hI.to ((Later.self (u.val.alloc (.cells #[.int .i64 n, .slice a l.length cap] 24))).alloc _)) hlen he h0)
  have d0 : (e != 0) = true := by rw [bne_iff_ne]; exact h0
  have z0 : ((u.val.alloc (.cells #[.int .i64 n, .slice a l.length cap] 24)).alloc (.cells #[.int .i64 0, .slice none 0 0] 24)).cell? ⟨u.val.heap.size, 0, none⟩ = some (.int .i64 n) := q0 ((Later.self (u.val.alloc (.cells #[.int .i64 n, .slice a l.length cap] 24))).alloc _)
  have z1 : ((u.val.alloc (.cells #[.int .i64 n, .slice a l.length cap] 24)).alloc (.cells #[.int .i64 0, .slice none 0 0] 24)).cell? ⟨u.val.heap.size, 1, none⟩ = some (.slice a l.length cap) := q1 ((Later.self (u.val.alloc (.cells #[.int .i64 n, .slice a l.length cap] 24))).alloc _)
  have HVY : Hid (∀ v : Later ((u.val.alloc (.cells #[.int .i64 n, .slice a l.length cap] 24)).alloc (.cells #[.int .i64 0, .slice none 0 0] 24)).heap.size ((u.val.alloc (.cells #[.int .i64 n, .slice a l.length cap] 24)).alloc (.cells #[.int .i64 0, .slice none 0 0] 24)), ∃ w : Later B W, w.val = v.val) := Lib.hid (fun v => ⟨((u.alloc _).alloc _).up v, rfl⟩)
  clear h hI h0 he XM q0 q1 p0 p1 T0 HV hM1
  go_enter Try.func22, Try.ntmps22
  go_upto_region 1 with fail
  generalize ((u.val.alloc (.cells #[.int .i64 n, .slice a l.length cap] 24)).alloc (.cells #[.int .i64 0, .slice none 0 0] 24)) = Y at *
  generalize u.val.heap.size = gu at *
  have hBg : B ≤ gu + 1 := by omega
  have f0 : ∀ (w : Later Y.heap.size Y), w.val.cell? ⟨gu + 1, 0, none⟩ = some (.int .i64 0) := fun w => (HX.out.keep_at w.below hgr).cell rfl
  have z0 : ∀ (w : Later Y.heap.size Y), w.val.frozen? ⟨gu + 1, 0, none⟩ = false := fun w => (HX.out.keep_at w.below hgr).fz 0
  have f1 : ∀ (w : Later Y.heap.size Y) (x0 : Value), (w.val.setCell ⟨gu + 1, 0, none⟩ x0).cell? ⟨gu + 1, 1, none⟩ = some (.slice none 0 0) := fun w x0 => ((HX.out.keep_at w.below hgr).set 0 x0).cell rfl
  have z1 : ∀ (w : Later Y.heap.size Y) (x0 : Value), (w.val.setCell ⟨gu + 1, 0, none⟩ x0).frozen? ⟨gu + 1, 1, none⟩ = false := fun w x0 => ((HX.out.keep_at w.below hgr).set 0 x0).fz 1
  go_wp2_with (first | (go_at_call 20; (with_reducible refine (KC.out).mono ?_); rintro e _ ⟨_, rfl, ⟨x, rfl, hr⟩, v1, rfl⟩))
  refine bodyPost_ret (results_row (vs := [.int .i64 0, .slice none 0 0]) rfl _ _ (gu + 1) rfl (((HX.out.keep v1.below).set 0 _).set 1 _) Try.underlying24 (by kernel_rfl)) rfl ?_
  obtain ⟨y1, hy1⟩ := later_set (HVY.out v1) (g := gu + 1) (i := 0) hBg (.int .i64 0)
  obtain ⟨y2, hy2⟩ := later_set ⟨y1, hy1⟩ (g := gu + 1) (i := 1) hBg (.slice none 0 0)
  exact RetP.of ⟨y2, hy2⟩ MatTO.no

end Go.Proofs.Ytefkhnibempibaa
