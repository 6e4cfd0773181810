
/-
  rotaref.Climb, greedy.Steps.
-/
import Derived.Test.YtjpcelldbhdneaaGrG
import Derived.Test.YtjpcelldbhdneaaGrF
import Derived.Test.YtjpcelldbhdneaaPush
namespace Go.Proofs.Ytjpcelldbhdneaa
open Go.RowKit
set_option linter.unusedVariables false

def lenG : Value → Nat
  | .slice _ n _ => n
  | _ => 0

set_option maxRecDepth 100000 in
set_option maxHeartbeats 20000000 in
theorem c_climb {B : Nat} {W : World} (u : Later B W) (m s : Nat) (hm : m ≤ 8) (q : Nat) (ws : List Int) (a b : Option Addr) (cap capb : Nat) (hw : IntsAt B W b ws) (hl : ws.length = m) (hs : s < bit m)
    (hG : ∀ (v : Later u.val.heap.size u.val) (c : Option Addr) (cc : Nat), IntsAt v.val.heap.size v.val c (ints (rkd (fun i => ws.getD i 0) m)) → Calls Try.prog 85 #[.agg #[.int .i64 m, .slice a q cap], .slice c m cc] v.val (Ret v.val.heap.size v.val (.int .i64 s))) :
    Calls Try.prog 87 #[.agg #[.int .i64 m, .slice a q cap], .slice b m capb] u.val (RetInts B W (climbL (stp (rkd (fun i => ws.getD i 0) m) s) (stp (rkd (fun i => ws.getD i 0) m) s).length)) := by
  have hbm := bit_le m hm
  have HSI := Lib.hid (StpIs.of (w := fun i => ws.getD i 0) hm hs)
  have T0 : Two (u.val.alloc (.cells #[.int .i64 m, .slice a q cap] 24)) u.val.heap.size 24 (.int .i64 m) (.slice a q cap) := Two.new _ _ _ _
  have KR : Hid (Calls Try.prog 86 #[.slice b m capb] (u.val.alloc (.cells #[.int .i64 m, .slice a q cap] 24)) (RetInts (u.val.alloc (.cells #[.int .i64 m, .slice a q cap] 24)).heap.size (u.val.alloc (.cells #[.int .i64 m, .slice a q cap] 24)) (ints (rkd (fun i => ws.getD i 0) m)))) := Lib.hid (c_ranked (Later.self (u.val.alloc (.cells #[.int .i64 m, .slice a q cap] 24))) m hm ws b capb (hw.to (u.alloc _)) hl)
  have KG : Hid (∀ (v : Later (u.val.alloc (.cells #[.int .i64 m, .slice a q cap] 24)).heap.size (u.val.alloc (.cells #[.int .i64 m, .slice a q cap] 24))) (c : Option Addr) (cc : Nat), IntsAt v.val.heap.size v.val c (ints (rkd (fun i => ws.getD i 0) m)) → Calls Try.prog 85 #[.agg #[.int .i64 m, .slice a q cap], .slice c m cc] v.val (Ret v.val.heap.size v.val (.int .i64 s))) := Lib.hid (fun v c cc hI => hG (((Later.self u.val).alloc _).up v) c cc hI)
  have q0 : ∀ w : Later (u.val.alloc (.cells #[.int .i64 m, .slice a q cap] 24)).heap.size (u.val.alloc (.cells #[.int .i64 m, .slice a q cap] 24)), w.val.cell? ⟨u.val.heap.size, 0, none⟩ = some (.int .i64 m) := fun w => (T0.keep w.below).c0
  have q1 : ∀ w : Later (u.val.alloc (.cells #[.int .i64 m, .slice a q cap] 24)).heap.size (u.val.alloc (.cells #[.int .i64 m, .slice a q cap] 24)), w.val.cell? ⟨u.val.heap.size, 1, none⟩ = some (.slice a q cap) := fun w => (T0.keep w.below).c1
  have HV : Hid (∀ v : Later (u.val.alloc (.cells #[.int .i64 m, .slice a q cap] 24)).heap.size (u.val.alloc (.cells #[.int .i64 m, .slice a q cap] 24)), ∃ w : Later B W, w.val = v.val) := Lib.hid (fun v => ⟨(u.alloc _).up v, rfl⟩)
  have HOl := rkd_len (fun i => ws.getD i 0) m
  have HOm : Hid (∀ t, t < m → (rkd (fun i => ws.getD i 0) m).getD t 0 < m) := Lib.hid (fun t h => (rkd_mem _ _ m).1 (getD_memN (by rw [rkd_len]; exact h)))
  have HAt := Lib.hid (fun i (hi : i < m) hb => @stp_at (rkd (fun i => ws.getD i 0) m) s i (by rw [rkd_len]; exact hi) hb)
  have HFs := Lib.hid (fun i (hi : i < m) => filtTo_step (fun e => s.testBit e) (rkd (fun i => ws.getD i 0) m) (k := i) (by rw [rkd_len]; exact hi))
  have HFa : Hid (filtTo (fun e => s.testBit e) (rkd (fun i => ws.getD i 0) m) m = stp (rkd (fun i => ws.getD i 0) m) s) := Lib.hid (by
    have := filtTo_all (fun e => s.testBit e) (rkd (fun i => ws.getD i 0) m)
    rwa [HOl] at this)
  have HFl : Hid (∀ k, (filtTo (fun e => s.testBit e) (rkd (fun i => ws.getD i 0) m) k).length ≤ 8) := Lib.hid (fun k => by have := filtTo_len (fun e => s.testBit e) (rkd (fun i => ws.getD i 0) m) k; omega)
  have HF0 : Hid (filtTo (fun e => s.testBit e) (rkd (fun i => ws.getD i 0) m) 0 = []) := Lib.hid rfl
  have HAdd := Lib.hid (fun k hk => accT_add HSI.out.lt HSI.out.nd (k := k) hk)
  have HALt := Lib.hid (fun k hk => accT_lt HSI.out.lt k hk)
  clear hG hw hl T0 HSI
  generalize hO : rkd (fun i => ws.getD i 0) m = O at *
  clear hO
  generalize hbl : stp O s = bl at *
  generalize hft : filtTo (fun e => s.testBit e) O = ft at *
  clear hbl hft
  have hio : (ints O).length = m := by rw [ints_len, HOl]
  have s8 : s < 256 := by omega
  go_enter Try.func87, Try.ntmps87
  go_upto_region 2 with (first | (go_at_call 86; (with_reducible refine (KR.out).mono ?_); rintro e _ ⟨_, rfl, ⟨adO, cpO, rfl, hIO, _⟩, v1, rfl⟩))
  try rw [hio]
  have KG1 := Lib.hid (KG.out v1 adO cpO hIO)
  have q0v : v1.val.cell? ⟨u.val.heap.size, 0, none⟩ = some (.int .i64 m) := q0 v1
  have q1v : v1.val.cell? ⟨u.val.heap.size, 1, none⟩ = some (.slice a q cap) := q1 v1
  go_upto_region 3 with (first | (go_at_call 85; (with_reducible refine (KG1.out).mono ?_); rintro e _ ⟨rfl, v2, rfl⟩))
  have HIO : Hid (IntsAt v2.val.heap.size v2.val adO (ints O)) := Lib.hid (hIO.to v2)
  have HV2 : Hid (∀ y : Later v2.val.heap.size v2.val, ∃ w : Later B W, w.val = y.val) := Lib.hid (fun y => HV.out ((v1.up v2).up y))
  clear KG KG1 KR hIO HV q0 q1 q0v q1v
  generalize v2.val = V at *
  clear v2 v1
  go_upto_region 4 with fail
  have HO0 : Hid (Own V.heap.size (V.alloc (.cells #[.int .i64 0] 3)) (some ⟨V.heap.size, 0, none⟩) 1 (climbL bl 0)) := Lib.hid (Own.lit (Nat.le_refl _) 0)
  obtain ⟨y, hy⟩ : ∃ y : Later V.heap.size V, y.val = V.alloc (.cells #[.int .i64 0] 3) := ⟨(Later.self V).alloc _, rfl⟩
  rw [← hy] at HO0 ⊢
  clear hy
  have Hio := Lib.hid hio
  clear hio HOl
  go_wp2
  go_loopw [7, 8] (fun o i wr => ∃ (k : Nat) (ad : Option Addr) (cp : Nat) (v : Later V.heap.size V), k ≤ m ∧ o = .slice ad (climbL bl (ft k).length).length cp ∧ i = .int .i64 k ∧ wr = v.val ∧ Hid (Own V.heap.size v.val ad cp (climbL bl (ft k).length))) (fun _ i _ => m - (intOf i).toNat)
  case atStart => exact ⟨0, _, 1, y, by omega, by rw [HF0.out]; rfl, rfl, rfl, by rw [HF0.out]; exact HO0⟩
  case round =>
    clear HO0 y
    obtain ⟨k, ad, cp, v, hk, rfl, rfl, rfl, HO⟩ := hrel
    by_cases hlt : k < m
    · obtain ⟨bb, off, rfl, hbB, hcell⟩ := HIO.out.at (k := k) (by rw [Hio.out]; exact hlt)
      have c0 : ∀ w : Later V.heap.size V, w.val.cell? ⟨bb, off + k, none⟩ = some (.int .i64 ((O.getD k 0 : Nat) : Int)) := fun w => by rw [← ints_getD]; exact hcell w k (by rw [Hio.out]; exact hlt)
      have c0v := c0 v
      have hx := HOm.out k hlt
      have KI := Lib.hid (c_in (Later.self v.val) s (O.getD k 0) (by omega) (by omega))
      dsimp only [Later.self] at KI
      have HS := Lib.hid (HFs.out k hlt)
      have HA := Lib.hid (HAt.out k hlt)
      clear hcell
      generalize hxx : O.getD k 0 = x at *
      clear hxx
      rcases btf (s.testBit x) with g1 | g1
      · rw [g1] at KI
        obtain ⟨ha1, ha2⟩ := HA.out g1
        have h81 := HFl.out k
        have hcl : (climbL bl (ft k).length).length = (ft k).length + 1 := climbL_len _ _
        have hadd := HAdd.out _ ha2
        rw [ha1] at hadd
        have hlt1 := HALt.out (ft k).length (by omega)
        have hlt2 := HALt.out ((ft k).length + 1) (by omega)
        have HN : Hid (climbL bl (ft (k + 1)).length = climbL bl (ft k).length ++ [((accT bl ((ft k).length + 1) : Nat) : Int)]) := Lib.hid (by
          rw [HS.out, if_pos g1, List.length_append, List.length_singleton]
          exact climbL_step _ _)
        have HLs : Hid ((climbL bl (ft k).length).getD (ft k).length 0 = ((accT bl (ft k).length : Nat) : Int)) := Lib.hid (climbL_last _ _)
        clear HS HA g1 ha1 ha2
        generalize accT bl ((ft k).length + 1) = a1 at *
        generalize accT bl (ft k).length = a0 at *
        generalize hcc : (ft k).length = c at *
        clear hcc
        generalize climbL bl c = T at *
        rw [hcl]
        have Hcl := Lib.hid hcl
        clear hcl
        obtain ⟨bo, oo, rfl, hbo, hco⟩ := HO.out.reads.at (k := c) (by rw [Hcl.out]; omega)
        have c1 : ∀ w : Later v.val.heap.size v.val, w.val.cell? ⟨bo, oo + c, none⟩ = some (.int .i64 (a0 : Int)) := fun w => by rw [← HLs.out]; exact hco w c (by rw [Hcl.out]; omega)
        clear hco
        go_upto_region 8 with (first | (go_at_call 128; (with_reducible refine (KI.out).mono ?_); rintro e _ ⟨rfl, v1, rfl⟩))
        have c0' : ∀ w : Later v1.val.heap.size v1.val, w.val.cell? ⟨bb, off + k, none⟩ = some (.int .i64 (x : Int)) := fun w => c0 ((v.up v1).up w)
        have c1' : ∀ w : Later v1.val.heap.size v1.val, w.val.cell? ⟨bo, oo + c, none⟩ = some (.int .i64 (a0 : Int)) := fun w => c1 (v1.up w)
        have hbx := bit_lt x (by omega)
        have bc := bit_cast x
        have w1 : IntKind.i64.wrap (bit x : Int) = (bit x : Int) := IntWalk.i64_in _ (by omega)
        have w2 : IntKind.i64.wrap (c : Int) = (c : Int) := IntWalk.i64_in _ (by omega)
        have w3 : IntKind.i64.wrap ((a0 : Int) + (bit x : Int)) = (a1 : Int) := by rw [IntWalk.i64_in _ (by omega)]; omega
        have hcz : (c : Int) < (c : Int) + 1 := by omega
        have HO1 := Lib.hid (HO.out.keep v1.below)
        have hTl : T.length + 1 ≤ 1099511627776 := by rw [Hcl.out]; omega
        clear c0 c0v c1 HO KI hadd
        obtain ⟨z, hz⟩ : ∃ z : Later V.heap.size V, z.val = v1.val := ⟨v.up v1, rfl⟩
        have c0z : z.val.drew.cell? ⟨bb, off + k, none⟩ = some (.int .i64 (x : Int)) := by rw [hz]; exact c0' (Later.self v1.val).drew
        have c1z : z.val.drew.cell? ⟨bo, oo + c, none⟩ = some (.int .i64 (a0 : Int)) := by rw [hz]; exact c1' (Later.self v1.val).drew
        have HO2 : Hid (Own V.heap.size z.val.drew (some ⟨bo, oo, none⟩) cp T) := Lib.hid (by rw [hz]; exact HO1.out.keep ((Below.refl _ _).drew))
        rw [← hz]
        clear hz c0' c1' HO1 v1
        have HTe : Hid ((Value.slice (some ⟨bo, oo, none⟩) (c + 1) cp) = .slice (some ⟨bo, oo, none⟩) T.length cp) := Lib.hid (by rw [Hcl.out])
        go_region_law (first | (refine step_push (B := V.heap.size) (W := V) (w := z.val.drew) z.drew.below z.drew.size (by rfl) _ _ (by rfl) T (some ⟨bo, oo, none⟩) cp (a1 : Int) (Eq.trans (by rfl) HTe.out) HO2.out (by rfl) hTl ?_; intro u2 ad2 cp2 hown))
        all_goals
          go_wp2
          go_roundw
          case rel => exact ⟨k+1, ad2, cp2, u2, by omega, by rw [HN.out]; simp, by go_num, rfl, by rw [HN.out]; exact hown⟩
          case measure => simp [intOf]; omega
      · rw [g1] at KI
        have HN : Hid (ft (k + 1) = ft k) := Lib.hid (by rw [HS.out, if_neg (by rw [g1]; decide)])
        clear HS HA g1
        go_wp2_with (first | (go_at_call 128; (with_reducible refine (KI.out).mono ?_); rintro e _ ⟨rfl, v1, rfl⟩))
        go_roundw
        case rel => exact ⟨k+1, ad, cp, v.up v1, by omega, by rw [HN.out], by go_num, rfl, by rw [HN.out]; exact Lib.hid (HO.out.keep v1.below)⟩
        case measure => simp [intOf]; omega
    · have hke : k = m := by omega
      subst hke
      rw [HFa.out] at HO ⊢
      go_wp2
      go_ret
      exact RetP.of (HV2.out v) (Reads.of_own HO.out)

set_option maxRecDepth 100000 in
set_option maxHeartbeats 8000000 in
theorem c_steps_no {B : Nat} {W : World} (u : Later B W) (n : Int) (q : Nat) (a : Option Addr) (cap : Nat) (e : Int) (he0 : e ≠ 0) (b : Option Addr) (qb capb : Nat) (K : ∀ v : Later B W, Calls Try.prog 186 #[.agg #[.int .i64 n, .slice a q cap], .slice b qb capb] v.val (Ret B W (.int .i64 e))) :
    Calls Try.prog 83 #[.agg #[.int .i64 n, .slice a q cap], .slice b qb capb] u.val (RetP B W (ListE [] e)) := by
  have T0 : Two (u.val.alloc (.cells #[.int .i64 n, .slice a q cap] 24)) u.val.heap.size 24 (.int .i64 n) (.slice a q cap) := Two.new _ _ _ _
  have KB : Hid (Calls Try.prog 82 #[.agg #[.int .i64 n, .slice a q cap], .slice b qb capb] (u.val.alloc (.cells #[.int .i64 n, .slice a q cap] 24)) (Ret B W (.tuple #[.int .i64 0, .int .i64 0, .int .i64 e]))) := Lib.hid (c_best_no (u.alloc _) n q a cap e he0 b qb capb K)
  have q0 := T0.c0
  have q1 := T0.c1
  have d0 : (e != 0) = true := by rw [bne_iff_ne]; exact he0
  clear T0 K he0
  go_enter Try.func83, Try.ntmps83
  go_wp2_with (first | (go_at_call 82; (with_reducible refine (KB.out).mono ?_); rintro e _ ⟨rfl, v1, rfl⟩))
  go_ret2
  exact RetP.mk v1 ListE.no

set_option maxRecDepth 100000 in
set_option maxHeartbeats 20000000 in
theorem c_steps {B : Nat} {W : World} (u : Later B W) (m s : Nat) (hm : m ≤ 8) (q : Nat) (x : Int) (ws : List Int) (a b : Option Addr) (cap capb : Nat) (hw : IntsAt B W b ws) (hl : ws.length = m) (hs : s < bit m)
    (hB : ∀ v : Later u.val.heap.size u.val, Calls Try.prog 82 #[.agg #[.int .i64 m, .slice a q cap], .slice b m capb] v.val (Ret v.val.heap.size v.val (.tuple #[.int .i64 s, .int .i64 x, .int .i64 0]))) :
    Calls Try.prog 83 #[.agg #[.int .i64 m, .slice a q cap], .slice b m capb] u.val (RetP B W (ListE (climbL (stp (rkd (fun i => ws.getD i 0) m) s) (stp (rkd (fun i => ws.getD i 0) m) s).length) 0)) := by
  have hbm := bit_le m hm
  have HSI := Lib.hid (StpIs.of (w := fun i => ws.getD i 0) hm hs)
  have HSn : Hid ((stp (rkd (fun i => ws.getD i 0) m) s).length ≤ 8) := Lib.hid (by
    have h1 : (stp (rkd (fun i => ws.getD i 0) m) s).length ≤ (rkd (fun i => ws.getD i 0) m).length := List.length_filter_le _ _
    rw [rkd_len] at h1; omega)
  have T0 : Two (u.val.alloc (.cells #[.int .i64 m, .slice a q cap] 24)) u.val.heap.size 24 (.int .i64 m) (.slice a q cap) := Two.new _ _ _ _
  have KB : Hid (Calls Try.prog 82 #[.agg #[.int .i64 m, .slice a q cap], .slice b m capb] (u.val.alloc (.cells #[.int .i64 m, .slice a q cap] 24)) (Ret (u.val.alloc (.cells #[.int .i64 m, .slice a q cap] 24)).heap.size (u.val.alloc (.cells #[.int .i64 m, .slice a q cap] 24)) (.tuple #[.int .i64 s, .int .i64 x, .int .i64 0]))) := Lib.hid (hB ((Later.self u.val).alloc _))
  have q0 : ∀ w : Later (u.val.alloc (.cells #[.int .i64 m, .slice a q cap] 24)).heap.size (u.val.alloc (.cells #[.int .i64 m, .slice a q cap] 24)), w.val.cell? ⟨u.val.heap.size, 0, none⟩ = some (.int .i64 m) := fun w => (T0.keep w.below).c0
  have q1 : ∀ w : Later (u.val.alloc (.cells #[.int .i64 m, .slice a q cap] 24)).heap.size (u.val.alloc (.cells #[.int .i64 m, .slice a q cap] 24)), w.val.cell? ⟨u.val.heap.size, 1, none⟩ = some (.slice a q cap) := fun w => (T0.keep w.below).c1
  have z0 : (u.val.alloc (.cells #[.int .i64 m, .slice a q cap] 24)).cell? ⟨u.val.heap.size, 0, none⟩ = some (.int .i64 m) := T0.c0
  have z1 : (u.val.alloc (.cells #[.int .i64 m, .slice a q cap] 24)).cell? ⟨u.val.heap.size, 1, none⟩ = some (.slice a q cap) := T0.c1
  have HV : Hid (∀ v : Later (u.val.alloc (.cells #[.int .i64 m, .slice a q cap] 24)).heap.size (u.val.alloc (.cells #[.int .i64 m, .slice a q cap] 24)), ∃ w : Later B W, w.val = v.val) := Lib.hid (fun v => ⟨(u.alloc _).up v, rfl⟩)
  have HW : Hid (IntsAt (u.val.alloc (.cells #[.int .i64 m, .slice a q cap] 24)).heap.size (u.val.alloc (.cells #[.int .i64 m, .slice a q cap] 24)) b ws) := Lib.hid (hw.to (u.alloc _))
  have Hl := Lib.hid hl
  obtain ⟨wf, hwf⟩ : ∃ wf : Nat → Int, wf = fun i => ws.getD i 0 := ⟨_, rfl⟩
  have HWf : Hid (∀ i, ws.getD i 0 = wf i) := Lib.hid (fun i => by rw [hwf])
  rw [← hwf] at HSI HSn
  rw [← hwf]
  clear hwf hB hw hl T0
  generalize hll : stp (rkd wf m) s = l at *
  clear hll
  have HLf : Hid (∀ k, lftT l s k < bit m) := Lib.hid (fun k => lft_sub hs k)
  have HDone := Lib.hid (fun k (hk : k ≤ l.length) => HSI.out.done hk)
  have HBest := Lib.hid (fun k (hk : k < l.length) (bv : Int) (h : BestTo wf (lftT l s k) m bv) => HSI.out.best hs hk h)
  have HLt := HSI.out.lt
  have HL8 := Lib.hid HLt
  have HALt := Lib.hid (fun k hk => accT_lt HLt k hk)
  have HL0 : Hid (lftT l s 0 = s) := Lib.hid rfl
  have HLs : Hid (∀ k, lftT l s (k + 1) = nand (lftT l s k) (bit (l.getD k 0))) := Lib.hid (fun k => rfl)
  have HAs : Hid (∀ k, accT l (k + 1) = accT l k ||| bit (l.getD k 0)) := Lib.hid (fun k => rfl)
  clear HSI HLt
  go_enter Try.func83, Try.ntmps83
  go_upto_region 4 with (first | (go_at_call 82; (with_reducible refine (KB.out).mono ?_); rintro e _ ⟨rfl, v1, rfl⟩))
  clear z0 z1 KB
  have s0 : ∀ w : Later v1.val.heap.size v1.val, w.val.cell? ⟨u.val.heap.size, 0, none⟩ = some (.int .i64 m) := fun w => q0 (v1.up w)
  have HV1 : Hid (∀ v : Later v1.val.heap.size v1.val, ∃ w : Later B W, w.val = v.val) := Lib.hid (fun v => HV.out (v1.up v))
  have HW1 : Hid (IntsAt v1.val.heap.size v1.val b ws) := Lib.hid (HW.out.to v1)
  clear q0 q1 HV HW
  generalize u.val.heap.size = g0 at *
  generalize v1.val = V at *
  clear v1 u
  go_upto_region 5 with fail
  have HO0 : Hid (Own V.heap.size (V.alloc (.cells #[.int .i64 0] 3)) (some ⟨V.heap.size, 0, none⟩) 1 (climbL l 0)) := Lib.hid (Own.lit (Nat.le_refl _) 0)
  obtain ⟨y, hy⟩ : ∃ y : Later V.heap.size V, y.val = V.alloc (.cells #[.int .i64 0] 3) := ⟨(Later.self V).alloc _, rfl⟩
  rw [← hy] at HO0 ⊢
  clear hy
  go_wp2
  go_loopw [9, 10] (fun o st wr => ∃ (k : Nat) (ad : Option Addr) (cp : Nat) (v : Later V.heap.size V), k ≤ l.length ∧ o = .slice ad (climbL l k).length cp ∧ st = .int .i64 (lftT l s k) ∧ wr = v.val ∧ Hid (Own V.heap.size v.val ad cp (climbL l k))) (fun o _ _ => 10 - lenG o)
  case atStart => exact ⟨0, _, 1, y, by omega, rfl, by rw [HL0.out], rfl, HO0⟩
  case round =>
    clear HO0 y
    obtain ⟨k, ad, cp, v, hk, rfl, rfl, rfl, HO⟩ := hrel
    have hLk := HLf.out k
    have hD := HDone.out k hk
    have hn8 := HSn.out
    have hcl : (climbL l k).length = k + 1 := climbL_len _ _
    by_cases hkn : k < l.length
    · have hne : lftT l s k ≠ 0 := fun h => by have := hD.1 h; omega
      have d0 : (((lftT l s k : Nat) : Int) != 0) = true := by rw [bne_iff_ne]; omega
      have HBk := Lib.hid (HBest.out k hkn)
      have hx8 := HL8.out k hkn
      have HLn := Lib.hid (HLs.out k)
      have HAn := Lib.hid (HAs.out k)
      have ha0 := HALt.out k hk
      have ha1 := HALt.out (k + 1) hkn
      have HCs := Lib.hid (climbL_step l k)
      have HLast := Lib.hid (climbL_last l k)
      rw [hcl]
      have Hcl := Lib.hid hcl
      clear hcl hD hne
      generalize hst : lftT l s k = st at *
      clear hst
      generalize hst1 : lftT l s (k + 1) = st1 at *
      have Hst1 := Lib.hid hst1
      clear hst1
      generalize accT l (k + 1) = a1 at *
      generalize accT l k = a0 at *
      generalize l.getD k 0 = x at *
      generalize climbL l k = T at *
      have s0v := s0 v
      go_wp2
      go_loopw [11, 29] (fun bb i wr => ∃ (i' : Nat) (bv : Int) (y : Later v.val.heap.size v.val), i' ≤ m ∧ bb = .int .i64 bv ∧ i = .int .i64 i' ∧ wr = y.val ∧ Hid (BestTo wf st i' bv)) (fun _ i _ => m - (intOf i).toNat)
      case atStart => exact ⟨0, -1, Later.self v.val, by omega, rfl, rfl, rfl, Lib.hid (BestTo.start wf st)⟩
      case round =>
        obtain ⟨i, bv, y, hi, rfl, rfl, rfl, HBt⟩ := hrel
        by_cases hlt : i < m
        · have s1 := shr_andG st i (by omega)
          obtain ⟨bw, ow, rfl, hbw, hcw⟩ := HW1.out.at (k := i) (by rw [Hl.out]; exact hlt)
          have HC : Hid (∀ (w : Later v.val.heap.size v.val) (j : Nat), j < m → w.val.cell? ⟨bw, ow + j, none⟩ = some (.int .i64 (wf j))) := Lib.hid (fun w j hj => by
            rw [← HWf.out]; exact hcw (v.up w) j (by rw [Hl.out]; exact hj))
          have c0 : ∀ w : Later v.val.heap.size v.val, w.val.cell? ⟨bw, ow + i, none⟩ = some (.int .i64 (wf i)) := fun w => HC.out w i hlt
          clear hcw
          rcases btf (st.testBit i) with g1 | g1
          · have s1' := s1
            rw [g1, show ((true.toNat : Nat) : Int) = 1 from rfl] at s1'
            clear s1
            rcases HBt.out with ⟨rfl, _⟩ | ⟨n, rfl, hn, _, _⟩
            · have HN := Lib.hid (HBt.out.take g1 (.inl (by omega)))
              clear g1 HBt
              generalize wf i = wi at *
              go_wp2
              refine wp_region_later y (by kernel_rfl) (by kernel_rfl) (fun _ => ?_)
              repeat (first | go_big_quiet_step ((fail)) | (refine wpQuiet_step (fun K hK => ?_); go_simp; refine ⟨_, fun _ => rfl, ?_⟩; refine hK _ ?_; clear hK K))
              refine wpQuiet_nil ?_
              intro y
              go_wp2
              go_roundw
              case rel => exact ⟨i+1, i, y, by omega, rfl, by go_num, rfl, HN⟩
              case measure => simp [intOf]; omega
            · have c1 : ∀ w : Later v.val.heap.size v.val, w.val.cell? ⟨bw, ow + n, none⟩ = some (.int .i64 (wf n)) := fun w => HC.out w n (by omega)
              have hnm : n < m := by omega
              have hnz : (n : Int) < (m : Int) := by omega
              have dn : decide ((n : Int) < 0) = false := decide_eq_false (by omega)
              have HTk : Hid (wf n < wf i → BestTo wf st (i + 1) i) := Lib.hid (fun h => HBt.out.take g1 (.inr (by rw [show ((n : Int)).toNat = n by omega]; exact h)))
              have HKp : Hid (wf i ≤ wf n → BestTo wf st (i + 1) n) := Lib.hid (fun h => HBt.out.keep h)
              clear g1 HBt
              generalize wf i = wi at *
              generalize wf n = wn at *
              rcases ilt wn wi with ⟨g2, d2⟩ | ⟨g2, d2⟩
              · have HN := Lib.hid (HTk.out g2)
                clear HTk HKp g2
                go_wp2
                refine wp_region_later y (by kernel_rfl) (by kernel_rfl) (fun _ => ?_)
                repeat (first | go_big_quiet_step ((fail)) | (refine wpQuiet_step (fun K hK => ?_); go_simp; refine ⟨_, fun _ => rfl, ?_⟩; refine hK _ ?_; clear hK K))
                refine wpQuiet_nil ?_
                intro y
                go_wp2
                go_roundw
                case rel => exact ⟨i+1, i, y, by omega, rfl, by go_num, rfl, HN⟩
                case measure => simp [intOf]; omega
              · have HN := Lib.hid (HKp.out g2)
                clear HTk HKp g2
                go_wp2
                refine wp_region_later y (by kernel_rfl) (by kernel_rfl) (fun _ => ?_)
                repeat (first | go_big_quiet_step ((fail)) | (refine wpQuiet_step (fun K hK => ?_); go_simp; refine ⟨_, fun _ => rfl, ?_⟩; refine hK _ ?_; clear hK K))
                refine wpQuiet_nil ?_
                intro y
                go_wp2
                go_roundw
                case rel => exact ⟨i+1, n, y, by omega, rfl, by go_num, rfl, HN⟩
                case measure => simp [intOf]; omega
          · rw [g1, show ((false.toNat : Nat) : Int) = 0 from rfl] at s1
            have HN := Lib.hid (HBt.out.skip g1)
            clear g1 HBt
            go_wp2
            refine wp_region_later y (by kernel_rfl) (by kernel_rfl) (fun _ => ?_)
            repeat (first | go_big_quiet_step ((fail)) | (refine wpQuiet_step (fun K hK => ?_); go_simp; refine ⟨_, fun _ => rfl, ?_⟩; refine hK _ ?_; clear hK K))
            refine wpQuiet_nil ?_
            intro y
            go_wp2
            go_roundw
            case rel => exact ⟨i+1, bv, y, by omega, rfl, by go_num, rfl, HN⟩
            case measure => simp [intOf]; omega
        · have hie : i = m := by omega
          subst hie
          have hbv := HBk.out bv HBt.out
          subst hbv
          have hbx := bit_lt x hx8
          have bc := bit_cast x
          have w1 : IntKind.i64.wrap (bit x : Int) = (bit x : Int) := IntWalk.i64_in _ (by omega)
          have o1 := i64_andNot st (bit x) (by omega) (by omega)
          rw [← HLn.out] at o1
          have o2 := i64_or a0 (bit x) (by omega) (by omega)
          rw [← HAn.out] at o2
          obtain ⟨bo, oo, rfl, hbo, hco⟩ := HO.out.reads.at (k := k) (by rw [Hcl.out]; omega)
          have c1 : ∀ w : Later v.val.heap.size v.val, w.val.cell? ⟨bo, oo + k, none⟩ = some (.int .i64 (a0 : Int)) := fun w => by rw [← HLast.out]; exact hco w k (by rw [Hcl.out]; omega)
          have c1z : y.val.drew.cell? ⟨bo, oo + k, none⟩ = some (.int .i64 (a0 : Int)) := c1 y.drew
          have HO2 : Hid (Own V.heap.size y.val.drew (some ⟨bo, oo, none⟩) cp T) := Lib.hid (HO.out.keep y.drew.below)
          have w2 : IntKind.i64.wrap (k : Int) = (k : Int) := IntWalk.i64_in _ (by omega)
          have hcz : (k : Int) < (k : Int) + 1 := by omega
          have hTl : T.length + 1 ≤ 1099511627776 := by rw [Hcl.out]; omega
          have HTe : Hid ((Value.slice (some ⟨bo, oo, none⟩) (k + 1) cp) = .slice (some ⟨bo, oo, none⟩) T.length cp) := Lib.hid (by rw [Hcl.out])
          clear hco c1 HO HBt
          obtain ⟨z, hz⟩ : ∃ z : Later V.heap.size V, z.val = y.val := ⟨v.up y, rfl⟩
          rw [← hz] at c1z HO2 ⊢
          clear hz y
          go_wp2
          go_region_law (first | (refine step_push (B := V.heap.size) (W := V) (w := z.val.drew) z.drew.below z.drew.size (by rfl) _ _ (by rfl) T (some ⟨bo, oo, none⟩) cp (a1 : Int) (Eq.trans (by rfl) HTe.out) HO2.out (by rfl) hTl ?_; intro u2 ad2 cp2 hown))
          all_goals
            go_wp2
            go_roundw
            case rel =>
              refine ⟨_, _, _, _, _, _, _, _, _, _, _, _, _, _, _, _, _, _, _, _, _, _, _, _, _, _, _, _, _, _, _, _, _, _, _, _, _, _, _, _, _, _, _, _, _, _, _, _, _, ?_, rfl⟩
              exact ⟨k+1, ad2, cp2, u2, by omega, by rw [HCs.out]; simp, vint (by rw [Hst1.out]), rfl, by rw [HCs.out]; exact hown⟩
            case measure =>
              show 10 - lenG (Value.slice ad2 (T.length + 1) cp2) < 10 - lenG (Value.slice (some ⟨bo, oo, none⟩) (k + 1) cp)
              simp only [lenG, Hcl.out]; omega
    · have hke : k = l.length := by omega
      have h0 := hD.2 hke
      subst hke
      rw [h0, hcl]
      rw [show ((0 : Nat) : Int) = 0 from rfl]
      have Hcl := Lib.hid hcl
      clear hcl hD h0 hLk
      go_wp2
      go_ret2
      exact RetP.of (HV1.out v) ⟨_, rfl, ⟨ad, cp, by rw [Hcl.out]; rfl, HO.out.reads, HO.out.cap⟩⟩

end Go.Proofs.Ytjpcelldbhdneaa
