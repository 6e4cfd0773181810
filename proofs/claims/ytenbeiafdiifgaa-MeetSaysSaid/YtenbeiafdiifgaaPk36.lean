
/-
  greedy.taken, greedy.sum, rotaref.Weighs.
-/
import Derived.Test.YtenbeiafdiifgaaPk35
import Derived.Test.YtenbeiafdiifgaaPk13
import Derived.IntWalk
namespace Go.Proofs.Ytenbeiafdiifgaa
open Go.RowKit
set_option linter.unusedVariables false

theorem shr_andG (x k : Nat) (hx : x < 256) : bits .and .i64 ((x : Int) / 2 ^ k) 1 = (((x.testBit k).toNat : Nat) : Int) := by
  have e1 : ((x : Int) / 2 ^ k) = ((x / 2 ^ k : Nat) : Int) := by simp
  have h1 : x / 2 ^ k ≤ x := Nat.div_le_self _ _
  rw [e1]
  have := i64_and (x / 2 ^ k) 1 (by omega) (by omega)
  rw [show ((1 : Nat) : Int) = 1 from rfl] at this
  rw [this, Nat.and_one_is_mod, Nat.toNat_testBit]

set_option maxRecDepth 100000 in
set_option maxHeartbeats 8000000 in
theorem c_weighs {B : Nat} {W : World} (u : Later B W) (m s : Nat) (hm : m ≤ 8) (hs : s < bit m) (ws : List Int) (b : Option Addr) (capb : Nat) (hw : IntsAt B W b ws) (hp : PrcIs m ws 0) :
    Calls Try.prog 10 #[.slice b ws.length capb, .int .i64 s] u.val (Ret B W (.int .i64 (wsT (fun i => ws.getD i 0) s m))) := by
  obtain ⟨hl, hr⟩ := hp.ok
  have hb := bit_le m hm
  have HEm : Hid (∀ j, j < (elems s).length → (elems s).getD j 0 < m) := Lib.hid (fun j hj => lt_m_of_testBit hs (by
    have : (elems s).getD j 0 ∈ elems s := by simp [hj]
    have := (List.mem_filter.1 this).2
    simpa using this))
  have KE := Lib.hid (c_elements u s (by omega))
  have Hl := Lib.hid hl
  have HR := Lib.hid hr
  have HBd := Lib.hid (fun k hk => lsT_bd (l := elems s) hr HEm.out k hk)
  have HS : Hid (∀ k, lsT (fun i => ws.getD i 0) (elems s) (k + 1) = lsT (fun i => ws.getD i 0) (elems s) k + ws.getD ((elems s).getD k 0) 0) := Lib.hid (fun k => rfl)
  have H0 : Hid (lsT (fun i => ws.getD i 0) (elems s) 0 = 0) := Lib.hid rfl
  have HW := Lib.hid hw
  have hx8 : (elems s).length ≤ 8 := sz_le s
  rw [← ws_is hm hs]
  rw [hl]
  clear hw hp hl hr
  generalize lsT (fun i => ws.getD i 0) (elems s) = A at *
  generalize elems s = E at *
  have hil : (ints E).length = E.length := ints_len E
  go_enter Try.func10, Try.ntmps10
  go_upto_region 3 with (first | (go_at_call 19; (with_reducible refine (KE.out).mono ?_); rintro e _ ⟨_, rfl, ⟨ad, cp, rfl, hI, _⟩, v1, rfl⟩))
  try rw [hil]
  have HI : Hid (IntsAt v1.val.heap.size v1.val ad (ints E)) := Lib.hid hI
  have HW1 : Hid (IntsAt v1.val.heap.size v1.val b ws) := Lib.hid ((HW.out.later v1.below).mono v1.size)
  have HV : Hid (∀ y : Later v1.val.heap.size v1.val, ∃ w : Later B W, w.val = y.val) := Lib.hid (fun y => ⟨v1.up y, rfl⟩)
  obtain ⟨y, hy⟩ : ∃ y : Later v1.val.heap.size v1.val, y.val = v1.val := ⟨Later.self _, rfl⟩
  rw [← hy]
  clear hy KE HW hI u
  generalize v1.val = V at *
  clear v1
  have Hil := Lib.hid hil
  clear hil
  go_wp2
  go_loopw [5, 7] (fun o i wr => ∃ (k : Nat) (v : Later V.heap.size V), k ≤ E.length ∧ o = .int .i64 (A k) ∧ i = .int .i64 k ∧ wr = v.val) (fun _ i _ => E.length - (intOf i).toNat)
  case atStart => exact ⟨0, y, by omega, by rw [H0.out], rfl, rfl⟩
  case round =>
    clear y
    obtain ⟨k, v, hk, rfl, rfl, rfl⟩ := hrel
    by_cases hlt : k < E.length
    · obtain ⟨be, oe, rfl, hbe, hce⟩ := HI.out.at (k := k) (by rw [Hil.out]; exact hlt)
      have c0 : v.val.cell? ⟨be, oe + k, none⟩ = some (.int .i64 ((E.getD k 0 : Nat) : Int)) := by rw [← ints_getD]; exact hce v k (by rw [Hil.out]; exact hlt)
      have hx := HEm.out k hlt
      obtain ⟨bb, off, rfl, hbB, hcell⟩ := HW1.out.at (k := E.getD k 0) (by rw [Hl.out]; exact hx)
      have c1 : v.val.cell? ⟨bb, off + E.getD k 0, none⟩ = some (.int .i64 (ws.getD (E.getD k 0) 0)) := hcell v _ (by rw [Hl.out]; exact hx)
      have hb1 := HBd.out k hk
      have hb2 := HR.out _ hx
      have HN := Lib.hid (HS.out k)
      clear hcell hce
      generalize E.getD k 0 = x at *
      generalize ws.getD x 0 = wx at *
      generalize A k = p at *
      go_wp2
      go_roundw
      case rel => exact ⟨k+1, v, by omega, vint (by rw [HN.out]), by go_num, rfl⟩
      case measure => simp [intOf]; omega
    · have hke : k = E.length := by omega
      subst hke
      go_wp2
      go_ret
      exact Ret.of (HV.out v) rfl

end Go.Proofs.Ytenbeiafdiifgaa
