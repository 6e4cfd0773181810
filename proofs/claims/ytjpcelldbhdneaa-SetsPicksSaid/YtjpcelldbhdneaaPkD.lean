
/-
  sets.Blocker.
-/
import Derived.Test.YtjpcelldbhdneaaPkC
namespace Go.Proofs.Ytjpcelldbhdneaa
open Go.RowKit
set_option linter.unusedVariables false

theorem blk_step {m : Nat} {L : List Nat} (k : Nat) : (those m (memB (nextTo m (L.getD k 0) (blkTo m L k) (blkTo m L k).length))).filter (loneB (those m (memB (nextTo m (L.getD k 0) (blkTo m L k) (blkTo m L k).length)))) = blkTo m L (k + 1) :=
  filt_least (m := m) (those_pwN _ _) (fun b hb => (mem_those.1 hb).1)

set_option maxRecDepth 100000 in
set_option maxHeartbeats 8000000 in
theorem c_setsBlocker {B : Nat} {W : World} (u : Later B W) (m : Nat) (hm : m ≤ 8) (L : List Nat) (hL : ∀ b, b ∈ L → b < bit m) (hlen : L.length ≤ 1048576) (a : Option Addr) (cap : Nat) (h : IntsAt B W a (ints L)) (hf : isFam m (ints L)) :
    Calls Try.prog 102 #[.int .i64 m, .slice a (ints L).length cap] u.val (RetP B W (ListO B (ints (those m (leastB (those m (meetsB L))))) 0)) := by
  have hb := bit_le m hm
  have HI := Lib.hid h
  have KF : Hid (Calls Try.prog 138 #[.int .i64 m, .slice a (ints L).length cap] u.val (Ret B W (.int .i64 0))) := Lib.hid (by
    have := c_family u m (ints L) a cap h (by rw [ints_len]; omega)
    rwa [show errno (decide (isFam m (ints L))) 1 = 0 by simp [errno, hf]] at this)
  have H8 : Hid (∀ k, k < L.length → L.getD k 0 < 256) := Lib.hid (fun k hk => by have := hL _ (getD_mem hk); omega)
  have HA := Lib.hid (blk_all hm hL)
  have HBl : Hid (∀ k, (blkTo m L k).length ≤ 256) := Lib.hid (fun k => blk_len hm k)
  have HBt : Hid (∀ k b, b ∈ blkTo m L k → b < bit m) := Lib.hid (fun k b h => blk_lt hm h)
  have HST : Hid (∀ k, (those m (memB (nextTo m (L.getD k 0) (blkTo m L k) (blkTo m L k).length))).filter (loneB (those m (memB (nextTo m (L.getD k 0) (blkTo m L k) (blkTo m L k).length)))) = blkTo m L (k + 1)) := Lib.hid blk_step
  rw [← blk_all hm hL]
  clear h hf hL HA
  have hil : (ints L).length = L.length := ints_len L
  rw [hil] at KF ⊢
  go_enter Try.func102, Try.ntmps102
  go_upto_region 4 with (first | (go_at_call 138; (with_reducible refine (KF.out).mono ?_); rintro e _ ⟨rfl, v1, rfl⟩))
  clear KF u
  go_upto_region 5 with fail
  have HO0 : Hid (Own B (v1.alloc (.cells #[.int .i64 0] 3)).val (some ⟨v1.val.heap.size, 0, none⟩) 1 (ints (blkTo m L 0))) := Lib.hid (Own.lit v1.size 0)
  obtain ⟨v, hv⟩ : ∃ v : Later B W, v.val = v1.val.alloc (.cells #[.int .i64 0] 3) := ⟨v1.alloc _, rfl⟩
  have HO1 : Hid (Own B v.val (some ⟨v1.val.heap.size, 0, none⟩) 1 (ints (blkTo m L 0))) := Lib.hid (by rw [hv]; exact HO0.out)
  rw [← hv]
  clear HO0 hv
  generalize v1.val.heap.size = g0 at *
  clear v1
  go_wp2
  go_loopw [7, 23] (fun o i wr => ∃ (k : Nat) (ad : Option Addr) (cp : Nat) (v : Later B W), k ≤ L.length ∧ o = .slice ad (ints (blkTo m L k)).length cp ∧ i = .int .i64 k ∧ wr = v.val ∧ Hid (Own B v.val ad cp (ints (blkTo m L k)))) (fun _ i _ => L.length - (intOf i).toNat)
  case atStart => exact ⟨0, _, 1, v, by omega, rfl, rfl, rfl, HO1⟩
  case round =>
    clear HO1 v
    obtain ⟨k, adN, cpN, v, hk, rfl, rfl, rfl, HO⟩ := hrel
    by_cases hlt : k < L.length
    · obtain ⟨b, off, rfl, hbB, hcell⟩ := HI.out.at (k := k) (by rw [ints_len]; exact hlt)
      have c0 : ∀ v : Later B W, v.val.cell? ⟨b, off + k, none⟩ = some (.int .i64 ((L.getD k 0 : Nat) : Int)) := fun v => by rw [← ints_getD]; exact hcell v k (by rw [ints_len]; exact hlt)
      have h8 := H8.out k hlt
      have HS := Lib.hid (HST.out k)
      have HNl := HBl.out k
      have HNt := Lib.hid (HBt.out k)
      clear hcell
      generalize L.getD k 0 = s at *
      generalize blkTo m L k = now at *
      have hnl : (ints now).length = now.length := ints_len now
      rw [hnl]
      have HN : Hid (IntsAt v.val.heap.size v.val adN (ints now)) := Lib.hid HO.out.reads
      clear HO
      go_upto_region 9 with fail
      clear c0
      obtain ⟨y, hy⟩ : ∃ y : Later v.val.heap.size v.val, y.val = v.val := ⟨Later.self _, rfl⟩
      rw [← hy]
      clear hy
      have HV : Hid (∀ w : Later v.val.heap.size v.val, ∃ z : Later B W, z.val = w.val) := Lib.hid (fun w => ⟨v.up w, rfl⟩)
      have HB0 : Hid (B ≤ v.val.heap.size) := Lib.hid v.size
      generalize v.val = V at *
      go_wp2
      go_loopw [10, 29] (fun o i wr => ∃ (j : Nat) (ad : Option Addr) (cp : Nat) (w : Later V.heap.size V), j ≤ now.length ∧ o = .slice ad (ints (nextTo m s now j)).length cp ∧ i = .int .i64 j ∧ wr = w.val ∧ Hid (Own V.heap.size w.val ad cp (ints (nextTo m s now j)))) (fun _ i _ => now.length - (intOf i).toNat)
      case atStart => exact ⟨0, none, 0, y, by omega, rfl, rfl, rfl, Own.nil _ _⟩
      case round =>
        clear y
        obtain ⟨j, ad, cp, w, hj, rfl, rfl, rfl, HO⟩ := hrel
        by_cases hjl : j < now.length
        · obtain ⟨bN, offN, rfl, hbN, hcN⟩ := HN.out.at (k := j) (by rw [ints_len]; exact hjl)
          have c0 : ∀ v : Later V.heap.size V, v.val.cell? ⟨bN, offN + j, none⟩ = some (.int .i64 ((now.getD j 0 : Nat) : Int)) := fun v => by rw [← ints_getD]; exact hcN v j (by rw [ints_len]; exact hjl)
          have hx8 : now.getD j 0 < 256 := by have := HNt.out _ (getD_mem hjl); omega
          have HP := Lib.hid (nextTo_step m s now hjl)
          have HLn : Hid ((nextTo m s now j).length ≤ 2048) := Lib.hid (by have := nextTo_len m s hm now j; omega)
          clear hcN
          generalize now.getD j 0 = x at *
          generalize nextTo m s now j = T at *
          have o1 := i64_and x s (by omega) (by omega)
          by_cases hxs : x &&& s = 0
          · have d1 : (((x &&& s : Nat) : Int) != 0) = false := by rw [bne_eq_false_iff_eq]; omega
            have HQ : Hid (nextTo m s now (j + 1) = T ++ addTo x s m) := Lib.hid (by rw [HP.out]; unfold nextOf; rw [if_pos hxs])
            have HA0 : Hid (Own V.heap.size w.val ad cp (ints (T ++ addTo x s 0))) := Lib.hid (by simpa [addTo, elemsTo] using HO.out)
            have hl0 : (ints T).length = (ints (T ++ addTo x s 0)).length := by simp [addTo, elemsTo]
            rw [hl0]
            clear HO hl0 HP hxs
            generalize x &&& s = xs at *
            go_upto_region 14 with fail
            clear c0
            go_wp2
            go_loopw [10, 42] (fun o i wr => ∃ (i' : Nat) (ad : Option Addr) (cp : Nat) (w : Later V.heap.size V), i' ≤ m ∧ o = .slice ad (ints (T ++ addTo x s i')).length cp ∧ i = .int .i64 i' ∧ wr = w.val ∧ Hid (Own V.heap.size w.val ad cp (ints (T ++ addTo x s i')))) (fun _ i _ => m - (intOf i).toNat)
            case atStart => exact ⟨0, ad, cp, w, by omega, rfl, rfl, rfl, HA0⟩
            case round =>
              clear HA0
              obtain ⟨i, ad, cp, w, hi, rfl, rfl, rfl, HO⟩ := hrel
              by_cases him : i < m
              · have s1 := shr_and3 s i h8
                have HR := Lib.hid (addTo_step x s i)
                have HL2 : Hid ((ints (T ++ addTo x s i)).length ≤ 4096) := Lib.hid (by rw [ints_len, List.length_append]; have := addTo_len x s i; have := HLn.out; omega)
                rcases btf (s.testBit i) with g1 | g1
                · rw [g1] at s1 HR
                  rw [show ((true.toNat : Nat) : Int) = 1 from rfl] at s1
                  have HN2 : Hid (T ++ addTo x s (i + 1) = (T ++ addTo x s i) ++ [x ||| bit i]) := Lib.hid (by rw [HR.out]; simp)
                  have hbj := bit_lt i (by omega)
                  have bc := bit_cast i
                  rw [bc] at s1
                  have w1 : IntKind.i64.wrap (bit i : Int) = (bit i : Int) := IntWalk.i64_in _ (by omega)
                  have o2 := i64_or x (bit i) (by omega) (by omega)
                  clear HR g1
                  generalize T ++ addTo x s i = T2 at *
                  generalize x ||| bit i = z at *
                  go_wp2_with (first | (at_builtin; refine wpList_push (B := V.heap.size) (W := V) (w := w.val) w.below w.size rfl _ _ rfl (ints T2) ad cp (z : Int) rfl HO.out rfl (by have := HL2.out; omega) ?_; intro u2 ad2 cp2 hown))
                  go_roundw
                  case rel => exact ⟨i+1, ad2, cp2, u2, by omega, by rw [HN2.out, ints_snoc]; simp, by go_num, rfl, by rw [HN2.out, ints_snoc]; exact hown⟩
                  case measure => simp [intOf]; omega
                · rw [g1] at s1 HR
                  rw [show ((false.toNat : Nat) : Int) = 0 from rfl] at s1
                  have HN2 : Hid (T ++ addTo x s (i + 1) = T ++ addTo x s i) := Lib.hid (by rw [HR.out]; simp)
                  clear HR g1
                  generalize T ++ addTo x s i = T2 at *
                  go_wp2
                  go_roundw
                  case rel => exact ⟨i+1, ad, cp, w, by omega, by rw [HN2.out], by go_num, rfl, by rw [HN2.out]; exact HO⟩
                  case measure => simp [intOf]; omega
              · have hie : i = m := by omega
                subst hie
                have HO2 : Hid (Own V.heap.size w.val ad cp (ints (nextTo i s now (j + 1)))) := Lib.hid (by rw [HQ.out]; exact HO.out)
                have hl2 : (ints (T ++ addTo x s i)).length = (ints (nextTo i s now (j + 1))).length := by rw [HQ.out]
                rw [hl2]
                go_wp2
                go_roundw
                case rel => exact ⟨j+1, ad, cp, w, by omega, rfl, by go_num, rfl, HO2⟩
                case measure => simp [intOf]; omega
          · have d1 : (((x &&& s : Nat) : Int) != 0) = true := by rw [bne_iff_ne]; omega
            have HQ : Hid (nextTo m s now (j + 1) = T ++ [x]) := Lib.hid (by rw [HP.out]; unfold nextOf; rw [if_neg hxs])
            clear HP hxs
            generalize x &&& s = xs at *
            go_wp2_with (first | (at_builtin; refine wpList_push (B := V.heap.size) (W := V) (w := w.val) w.below w.size rfl _ _ rfl (ints T) ad cp (x : Int) rfl HO.out rfl (by rw [ints_len]; have := HLn.out; omega) ?_; intro u2 ad2 cp2 hown))
            go_roundw
            case rel => exact ⟨j+1, ad2, cp2, u2, by omega, by rw [HQ.out, ints_snoc]; simp, by go_num, rfl, by rw [HQ.out, ints_snoc]; exact hown⟩
            case measure => simp [intOf]; omega
        · have hje : j = now.length := by omega
          subst hje
          have HTt : Hid (∀ t, t ∈ nextTo m s now now.length → t < bit m) := Lib.hid (fun t ht => nextTo_lt hm HNt.out ht)
          have HTl : Hid ((nextTo m s now now.length).length ≤ 2048) := Lib.hid (by have := nextTo_len m s hm now now.length; omega)
          generalize nextTo m s now now.length = T at *
          have K2 : Hid (∀ (v : Later V.heap.size V), Own V.heap.size v.val ad cp (srt (ints T)) → Calls Try.prog 177 #[.slice ad (ints T).length cp] v.val (fun e w' => e = .returned (.slice ad (ints (those m (memB T))).length cp) ∧ ∃ v2 : Later V.heap.size V, w' = v2.val ∧ Own V.heap.size v2.val ad cp (ints (those m (memB T))))) := Lib.hid (fun v h => by
            have := c_compact v _ ad cp h
            rw [srt_len, cpt_srt HTt.out] at this
            refine this.mono ?_
            rintro e w ⟨h1, v2, h2, h3, _⟩; exact ⟨h1, v2, h2, h3⟩)
          have HM8 : Hid (∀ b, b ∈ those m (memB T) → b < 256) := Lib.hid (fun b hb => by have := (mem_those.1 hb).1; omega)
          have HMl : Hid ((those m (memB T)).length ≤ 256) := Lib.hid (by have := thoseTo_len (memB T) (bit m); have e : those m (memB T) = thoseTo (memB T) (bit m) := rfl; rw [e]; omega)
          generalize those m (memB T) = M at *
          have K3 : Hid (∀ (v : Later V.heap.size V), Own V.heap.size v.val ad cp (ints M) → Calls Try.prog 201 #[.slice ad (ints M).length cp] v.val (RetOwn v.val.heap.size v.val (ints (M.filter (loneB M))))) := Lib.hid (fun v h => c_setsLeast0 (Later.self v.val) M HM8.out (by have := HMl.out; omega) ad cp h.reads)
          rw [HS.out] at K3
          clear HS HTt HM8 HMl HN HNt
          go_wp2_with fail
          refine (c_sort w (ints T) ad cp HO.out (by rw [ints_len]; have := HTl.out; omega)).mono ?_
          rintro e _ ⟨rfl, v1, rfl, hO1, _⟩
          go_wp2_with fail
          refine (K2.out v1 hO1).mono ?_
          rintro e _ ⟨rfl, v2, rfl, hO2⟩
          go_wp2_with fail
          refine (K3.out v2 hO2).mono ?_
          rintro e _ ⟨_, rfl, ⟨ad3, cp3, rfl, hO3⟩, v3, rfl⟩
          have HO4 : Hid (Own B v3.val ad3 cp3 (ints (blkTo m L (k + 1)))) := Lib.hid (hO3.mono (Nat.le_trans HB0.out v2.size))
          obtain ⟨z, hz⟩ := HV.out (v2.up v3)
          have hz' : z.val = v3.val := hz
          rw [← hz'] at HO4
          go_wp2
          go_roundw
          case rel => exact ⟨k+1, ad3, cp3, z, by omega, rfl, by go_num, hz.symm, HO4⟩
          case measure => simp [intOf]; omega
    · have hke : k = L.length := by omega
      subst hke
      go_wp2
      go_ret2
      exact RetP.mk v ⟨_, _, rfl, HO.out⟩

set_option maxRecDepth 100000 in
set_option maxHeartbeats 4000000 in
theorem c_setsShadow_no {B : Nat} {W : World} (u : Later B W) (n : Int) (l : List Int) (hlen : l.length ≤ 4611686018427387904) (a : Option Addr) (cap : Nat) (h : IntsAt B W a l) (hf : ¬ isFam n l) :
    Calls Try.prog 101 #[.int .i64 n, .slice a l.length cap] u.val (RetP B W (ListE [] 1)) := by
  have KF : Hid (Calls Try.prog 138 #[.int .i64 n, .slice a l.length cap] u.val (Ret B W (.int .i64 1))) := Lib.hid (by
    have := c_family u n l a cap h (by omega)
    rwa [show errno (decide (isFam n l)) 1 = 1 by simp [errno, hf]] at this)
  clear h hf
  go_enter Try.func101, Try.ntmps101
  go_wp2_with (first | (go_at_call 138; (with_reducible refine (KF.out).mono ?_); rintro e _ ⟨rfl, v1, rfl⟩))
  go_ret2
  exact RetP.mk v1 ListE.no
set_option maxRecDepth 100000 in
set_option maxHeartbeats 4000000 in
theorem c_setsBlocker_no {B : Nat} {W : World} (u : Later B W) (n : Int) (l : List Int) (hlen : l.length ≤ 4611686018427387904) (a : Option Addr) (cap : Nat) (h : IntsAt B W a l) (hf : ¬ isFam n l) :
    Calls Try.prog 102 #[.int .i64 n, .slice a l.length cap] u.val (RetP B W (ListE [] 1)) := by
  have KF : Hid (Calls Try.prog 138 #[.int .i64 n, .slice a l.length cap] u.val (Ret B W (.int .i64 1))) := Lib.hid (by
    have := c_family u n l a cap h (by omega)
    rwa [show errno (decide (isFam n l)) 1 = 1 by simp [errno, hf]] at this)
  clear h hf
  go_enter Try.func102, Try.ntmps102
  go_wp2_with (first | (go_at_call 138; (with_reducible refine (KF.out).mono ?_); rintro e _ ⟨rfl, v1, rfl⟩))
  go_ret2
  exact RetP.mk v1 ListE.no

end Go.Proofs.Ytjpcelldbhdneaa
