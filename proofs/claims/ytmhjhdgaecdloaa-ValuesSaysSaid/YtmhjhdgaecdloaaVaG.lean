
/-
  values.prices, values.worth, rotaref.Worth.
-/
import Derived.Test.YtmhjhdgaecdloaaVaE
import Derived.Test.YtmhjhdgaecdloaaGrB
namespace Go.Proofs.Ytmhjhdgaecdloaa
open Go.RowKit
set_option linter.unusedVariables false

set_option maxRecDepth 100000 in
set_option maxHeartbeats 4000000 in
theorem c_prices {B : Nat} {W : World} (u : Later B W) (m : Nat) (ws : List Int) (b : Option Addr) (capb : Nat) (e : Int) (hw : IntsAt B W b ws) (hwl : ws.length ≤ 4611686018427387904) (hm : m ≤ 8) (hp : PrcIs m ws e) :
    Calls Try.prog 20 #[.int .i64 m, .slice b ws.length capb] u.val (Ret B W (.int .i64 e)) := by
  have HW := Lib.hid hw
  have HP := Lib.hid hp
  clear hw hp
  by_cases hl : ws.length = m
  case neg =>
    have he := HP.out.1 hl
    subst he
    have d1 : ((ws.length : Int) != (m : Int)) = true := by rw [bne_iff_ne]; omega
    clear HP HW hl
    generalize ws.length = q at *
    go_enter Try.func20, Try.ntmps20
    go_wp2
    go_ret
    exact Ret.mk u rfl
  have H1 : Hid ((∃ i, i < m ∧ ¬ (-1000 ≤ ws.getD i 0 ∧ ws.getD i 0 ≤ 1000)) → e = 1) := Lib.hid (HP.out.2.1 hl)
  have H2 : Hid ((∀ i, i < m → -1000 ≤ ws.getD i 0 ∧ ws.getD i 0 ≤ 1000) → e = 0) := Lib.hid (HP.out.2.2 hl)
  have Hl := Lib.hid hl
  have d1 : ((m : Int) != (m : Int)) = false := by simp
  rw [hl]
  clear HP hl
  go_enter Try.func20, Try.ntmps20
  go_wp2
  go_loopw [13] (fun i wr => ∃ (k : Nat) (v : Later B W), k ≤ m ∧ i = .int .i64 k ∧ wr = v.val ∧ Hid (∀ i, i < k → -1000 ≤ ws.getD i 0 ∧ ws.getD i 0 ≤ 1000)) (fun i _ => m - (intOf i).toNat)
  case atStart => exact ⟨0, u, by omega, rfl, rfl, Lib.hid (fun i hi => by omega)⟩
  case round =>
    clear u
    obtain ⟨k, v, hk, rfl, rfl, hf⟩ := hrel
    by_cases hlt : k < m
    · obtain ⟨bb, off, rfl, hbB, hcell⟩ := HW.out.at (k := k) (by rw [Hl.out]; exact hlt)
      have c0 : v.val.cell? ⟨bb, off + k, none⟩ = some (.int .i64 (ws.getD k 0)) := hcell v k (by rw [Hl.out]; exact hlt)
      have HX : Hid (¬ (-1000 ≤ ws.getD k 0 ∧ ws.getD k 0 ≤ 1000) → e = 1) := Lib.hid (fun h => H1.out ⟨k, hlt, h⟩)
      have HY : Hid (-1000 ≤ ws.getD k 0 ∧ ws.getD k 0 ≤ 1000 → ∀ i, i < k + 1 → -1000 ≤ ws.getD i 0 ∧ ws.getD i 0 ≤ 1000) := Lib.hid (fun h i hi => by
        by_cases c : i = k
        · subst c; exact h
        · exact hf.out i (by omega))
      clear hcell hf H1 H2
      generalize ws.getD k 0 = z at *
      rcases ilt z (-1000) with ⟨g1, p1⟩ | ⟨g1, p1⟩
      · have HN := Lib.hid (HX.out (by omega))
        clear HX HY g1
        go_wp2
        go_ret
        exact Ret.mk v (vint HN.out.symm)
      · rcases ilt 1000 z with ⟨g2, p2⟩ | ⟨g2, p2⟩
        · have HN := Lib.hid (HX.out (by omega))
          clear HX HY g1 g2
          go_wp2
          go_ret
          exact Ret.mk v (vint HN.out.symm)
        · have HN := Lib.hid (HY.out (by omega))
          clear HX HY g1 g2
          go_wp2
          go_roundw
          case rel => exact ⟨k+1, v, by omega, by go_num, rfl, HN⟩
          case measure => simp [intOf]; omega
    · have hke : k = m := by omega
      subst hke
      have HN := Lib.hid (H2.out hf.out)
      clear H1 H2 hf
      go_wp2
      go_ret
      exact Ret.mk v (vint HN.out.symm)

set_option maxRecDepth 100000 in
set_option maxHeartbeats 8000000 in
theorem c_worth {B : Nat} {W : World} (u : Later B W) (m s : Nat) (z : Int) (hz0 : -1000 ≤ z) (hz1 : z ≤ 1000) (hm : m ≤ 8) (hs : s < 256) (ws : List Int) (b : Option Addr) (capb : Nat) (hw : IntsAt B W b ws) (hp : PrcIs m ws 0) :
    Calls Try.prog 22 #[.agg #[.int .i64 s, .int .i64 z], .slice b ws.length capb] u.val (Ret B W (.int .i64 (z + wsT (fun i => ws.getD i 0) s m))) := by
  obtain ⟨hl, hr⟩ := hp.ok
  have T1 : Two (u.val.alloc (.cells #[.int .i64 s, .int .i64 z] 36)) u.val.heap.size 36 (.int .i64 s) (.int .i64 z) := Two.new _ _ _ _
  have c00 : ∀ w : Later (u.val.alloc (.cells #[.int .i64 s, .int .i64 z] 36)).heap.size (u.val.alloc (.cells #[.int .i64 s, .int .i64 z] 36)), w.val.cell? ⟨u.val.heap.size, 0, none⟩ = some (.int .i64 s) := fun w => (T1.keep w.below).c0
  have c1 := T1.c1
  have HV : Hid (∀ w : Later (u.val.alloc (.cells #[.int .i64 s, .int .i64 z] 36)).heap.size (u.val.alloc (.cells #[.int .i64 s, .int .i64 z] 36)), ∃ w' : Later B W, w'.val = w.val) := Lib.hid (fun w => ⟨(u.alloc _).up w, rfl⟩)
  have HW : Hid (IntsAt (u.val.alloc (.cells #[.int .i64 s, .int .i64 z] 36)).heap.size (u.val.alloc (.cells #[.int .i64 s, .int .i64 z] 36)) b ws) := Lib.hid (hw.to (u.alloc _))
  have Hl := Lib.hid hl
  have HR := Lib.hid hr
  have HBd := Lib.hid (fun k hk => wsT_bd (s := s) hr k hk)
  have HS : Hid (∀ k, wsT (fun i => ws.getD i 0) s (k + 1) = wsT (fun i => ws.getD i 0) s k + ws.getD k 0 * (((s.testBit k).toNat : Nat) : Int)) := Lib.hid (fun k => rfl)
  have H0 : Hid (wsT (fun i => ws.getD i 0) s 0 = 0) := Lib.hid rfl
  obtain ⟨y, hy⟩ : ∃ y : Later (u.val.alloc (.cells #[.int .i64 s, .int .i64 z] 36)).heap.size (u.val.alloc (.cells #[.int .i64 s, .int .i64 z] 36)), y.val = (u.val.alloc (.cells #[.int .i64 s, .int .i64 z] 36)) := ⟨Later.self _, rfl⟩
  rw [hl]
  clear hw hp hl hr T1
  generalize wsT (fun i => ws.getD i 0) s = A at *
  go_enter Try.func22, Try.ntmps22
  go_upto_region 2 with fail
  rw [← hy]
  clear hy c1
  generalize u.val.heap.size = g at *
  generalize (u.val.alloc (.cells #[.int .i64 s, .int .i64 z] 36)) = V at *
  clear u
  go_wp2
  go_loopw [5, 12] (fun o i wr => ∃ (k : Nat) (v : Later V.heap.size V), k ≤ m ∧ o = .int .i64 (z + A k) ∧ i = .int .i64 k ∧ wr = v.val) (fun _ i _ => m - (intOf i).toNat)
  case atStart => exact ⟨0, y, by omega, vint (by rw [H0.out]; omega), rfl, rfl⟩
  case round =>
    clear y
    obtain ⟨k, v, hk, rfl, rfl, rfl⟩ := hrel
    by_cases hlt : k < m
    · obtain ⟨bb, off, rfl, hbB, hcell⟩ := HW.out.at (k := k) (by rw [Hl.out]; exact hlt)
      have c0 : v.val.cell? ⟨bb, off + k, none⟩ = some (.int .i64 (ws.getD k 0)) := hcell v k (by rw [Hl.out]; exact hlt)
      have c00v := c00 v
      have hb1 := HBd.out k hk
      have hb2 := HR.out k hlt
      have HN := Lib.hid (HS.out k)
      have s1 := shr_andG s k hs
      clear hcell
      generalize ws.getD k 0 = x at *
      generalize A k = p at *
      obtain ⟨zp, hzp⟩ : ∃ zp, zp = z + p := ⟨_, rfl⟩
      have HZ := Lib.hid hzp
      rw [← hzp]
      have hzb : -10000 ≤ zp ∧ zp ≤ 10000 := by omega
      clear hzp
      rcases btf (s.testBit k) with g1 | g1
      · rw [g1] at HN s1
        rw [show ((true.toNat : Nat) : Int) = 1 from rfl] at HN s1
        go_wp2
        go_roundw
        case rel => exact ⟨k+1, v, by omega, vint (by rw [HN.out, HZ.out]; simp; omega), by go_num, rfl⟩
        case measure => simp [intOf]; omega
      · rw [g1] at HN s1
        rw [show ((false.toNat : Nat) : Int) = 0 from rfl] at HN s1
        go_wp2
        go_roundw
        case rel => exact ⟨k+1, v, by omega, vint (by rw [HN.out, HZ.out]; simp), by go_num, rfl⟩
        case measure => simp [intOf]; omega
    · have hke : k = m := by omega
      subst hke
      go_wp2
      go_ret
      exact Ret.of (HV.out v) rfl

set_option maxRecDepth 100000 in
set_option maxHeartbeats 4000000 in
theorem c_refWorth {B : Nat} {W : World} (u : Later B W) (m s : Nat) (z : Int) (hz0 : -1000 ≤ z) (hz1 : z ≤ 1000) (hm : m ≤ 8) (hs : s < bit m) (ws : List Int) (b : Option Addr) (capb : Nat) (hw : IntsAt B W b ws) (hp : PrcIs m ws 0) :
    Calls Try.prog 14 #[.agg #[.int .i64 s, .int .i64 z], .slice b ws.length capb] u.val (Ret B W (.int .i64 (z + wsT (fun i => ws.getD i 0) s m))) := by
  obtain ⟨hl, hr⟩ := hp.ok
  have hb := bit_le m hm
  have T1 : Two (u.val.alloc (.cells #[.int .i64 s, .int .i64 z] 36)) u.val.heap.size 36 (.int .i64 s) (.int .i64 z) := Two.new _ _ _ _
  have c0 : ∀ w : Later (u.val.alloc (.cells #[.int .i64 s, .int .i64 z] 36)).heap.size (u.val.alloc (.cells #[.int .i64 s, .int .i64 z] 36)), w.val.cell? ⟨u.val.heap.size, 0, none⟩ = some (.int .i64 s) := fun w => (T1.keep w.below).c0
  have c1 : ∀ w : Later (u.val.alloc (.cells #[.int .i64 s, .int .i64 z] 36)).heap.size (u.val.alloc (.cells #[.int .i64 s, .int .i64 z] 36)), w.val.cell? ⟨u.val.heap.size, 1, none⟩ = some (.int .i64 z) := fun w => (T1.keep w.below).c1
  have HV : Hid (∀ w : Later (u.val.alloc (.cells #[.int .i64 s, .int .i64 z] 36)).heap.size (u.val.alloc (.cells #[.int .i64 s, .int .i64 z] 36)), ∃ w' : Later B W, w'.val = w.val) := Lib.hid (fun w => ⟨(u.alloc _).up w, rfl⟩)
  have KW := Lib.hid (fun v : Later (u.val.alloc (.cells #[.int .i64 s, .int .i64 z] 36)).heap.size (u.val.alloc (.cells #[.int .i64 s, .int .i64 z] 36)) => c_weighs v m s hm hs ws b capb (hw.to (u.alloc _)) hp)
  have hbd := wsT_bd (s := s) hr m (Nat.le_refl _)
  have w1 : IntKind.i64.wrap (z + wsT (fun i => ws.getD i 0) s m) = z + wsT (fun i => ws.getD i 0) s m := IntWalk.i64_in _ (by omega)
  obtain ⟨y, hy⟩ : ∃ y : Later (u.val.alloc (.cells #[.int .i64 s, .int .i64 z] 36)).heap.size (u.val.alloc (.cells #[.int .i64 s, .int .i64 z] 36)), y.val = (u.val.alloc (.cells #[.int .i64 s, .int .i64 z] 36)) := ⟨Later.self _, rfl⟩
  clear T1 hw hp hl hr hbd
  generalize wsT (fun i => ws.getD i 0) s m = A at *
  go_enter Try.func14, Try.ntmps14
  go_upto_region 1 with fail
  rw [← hy]
  clear hy
  generalize u.val.heap.size = g at *
  generalize (u.val.alloc (.cells #[.int .i64 s, .int .i64 z] 36)) = V at *
  refine wp_region_later y (by kernel_rfl) (by kernel_rfl) (fun _ => ?_)
  repeat (first | go_big_quiet_step (((go_at_call 26; exact KW.out _))) | (refine wpQuiet_step (fun K hK => ?_); go_simp; refine ⟨_, fun _ => rfl, ?_⟩; refine hK _ ?_; clear hK K))
  refine wpQuiet_nil ?_
  intro y
  go_wp2
  go_ret
  exact Ret.of (HV.out y) rfl

end Go.Proofs.Ytmhjhdgaecdloaa
