
/-
  greedy.taken, greedy.sum, rotaref.Weighs.
-/
import Derived.Test.YtjpcelldbhdneaaGrA
import Derived.Test.YtjpcelldbhdneaaAxRanks
import Derived.IntWalk
namespace Go.Proofs.Ytjpcelldbhdneaa
open Go.RowKit
set_option linter.unusedVariables false

theorem shr_andG (x k : Nat) (hx : x < 256) : bits .and .i64 ((x : Int) / 2 ^ k) 1 = (((x.testBit k).toNat : Nat) : Int) := by
  have e1 : ((x : Int) / 2 ^ k) = ((x / 2 ^ k : Nat) : Int) := by simp
  have h1 : x / 2 ^ k ≤ x := Nat.div_le_self _ _
  rw [e1]
  have := i64_and (x / 2 ^ k) 1 (by omega) (by omega)
  rw [show ((1 : Nat) : Int) = 1 from rfl] at this
  rw [this, Nat.and_one_is_mod, Nat.toNat_testBit]

set_option maxRecDepth 100000 in
set_option maxHeartbeats 8000000 in
theorem c_taken {B : Nat} {W : World} (u : Later B W) (m : Nat) (hm : m ≤ 8) (l : List Int) (O : List Nat) (a b : Option Addr) (cap capb : Nat) (h : IntsAt B W a l) (hlen : l.length ≤ 4611686018427387904) (he : MatIs (m : Int) l 0) (ho : IntsAt B W b (ints O)) (hOl : O.length = m) (hO : ∀ j, j < m → O.getD j 0 < m) :
    Calls Try.prog 190 #[.agg #[.int .i64 m, .slice a l.length cap], .slice b (ints O).length capb] u.val (Ret B W (.int .i64 (takTo (toN l) O m))) := by
  have hb := bit_le m hm
  have T0 : Hid (Two (u.val.alloc (.cells #[.int .i64 (m : Int), .slice a l.length cap] 24)) u.val.heap.size 24 (.int .i64 (m : Int)) (.slice a l.length cap)) := Lib.hid (Two.new _ _ _ _)
  have hrr : u.val.heap.size < (u.val.alloc (.cells #[.int .i64 (m : Int), .slice a l.length cap] 24)).heap.size := by simp
  have hI : IntsAt (u.val.alloc (.cells #[.int .i64 (m : Int), .slice a l.length cap] 24)).heap.size (u.val.alloc (.cells #[.int .i64 (m : Int), .slice a l.length cap] 24)) a l := h.to (u.alloc _)
  have HV : Hid (∀ v : Later (u.val.alloc (.cells #[.int .i64 (m : Int), .slice a l.length cap] 24)).heap.size (u.val.alloc (.cells #[.int .i64 (m : Int), .slice a l.length cap] 24)), ∃ w : Later B W, w.val = v.val) := Lib.hid (fun v => ⟨(u.alloc _).up v, rfl⟩)
  have q0 : ∀ w : Later (u.val.alloc (.cells #[.int .i64 (m : Int), .slice a l.length cap] 24)).heap.size (u.val.alloc (.cells #[.int .i64 (m : Int), .slice a l.length cap] 24)), w.val.cell? ⟨u.val.heap.size, 0, none⟩ = some (.int .i64 (m : Int)) := fun w => (T0.out.keep w.below).c0
  have q1 : ∀ w : Later (u.val.alloc (.cells #[.int .i64 (m : Int), .slice a l.length cap] 24)).heap.size (u.val.alloc (.cells #[.int .i64 (m : Int), .slice a l.length cap] 24)), w.val.cell? ⟨u.val.heap.size, 1, none⟩ = some (.slice a l.length cap) := fun w => (T0.out.keep w.below).c1
  have p0 : (u.val.alloc (.cells #[.int .i64 (m : Int), .slice a l.length cap] 24)).cell? ⟨u.val.heap.size, 0, none⟩ = some (.int .i64 (m : Int)) := T0.out.c0
  have p1 : (u.val.alloc (.cells #[.int .i64 (m : Int), .slice a l.length cap] 24)).cell? ⟨u.val.heap.size, 1, none⟩ = some (.slice a l.length cap) := T0.out.c1
  have HW : Hid (IntsAt (u.val.alloc (.cells #[.int .i64 (m : Int), .slice a l.length cap] 24)).heap.size (u.val.alloc (.cells #[.int .i64 (m : Int), .slice a l.length cap] 24)) b (ints O)) := Lib.hid (ho.to (u.alloc _))
  have KR : Hid (Calls Try.prog 24 #[.agg #[.int .i64 m, .slice a l.length cap]] (u.val.alloc (.cells #[.int .i64 (m : Int), .slice a l.length cap] 24)) (RetP (u.val.alloc (.cells #[.int .i64 (m : Int), .slice a l.length cap] 24)).heap.size (u.val.alloc (.cells #[.int .i64 (m : Int), .slice a l.length cap] 24)) (fun v w => ∃ g c, v = .tuple #[.slice (some ⟨g, 0, none⟩) (bit m) c, .int .i64 0] ∧ ITab w g (bit m) (fun j => (rk (toN l) j : Int)) ∧ (u.val.alloc (.cells #[.int .i64 (m : Int), .slice a l.length cap] 24)).heap.size ≤ g))) := Lib.hid (c_axRanksB (Later.self (u.val.alloc (.cells #[.int .i64 (m : Int), .slice a l.length cap] 24))) m hm l a cap hI hlen he)
  have HTk := Lib.hid (fun k hk => takTo_lt (L := toN l) hO k hk)
  have HSt := Lib.hid (takTo_succ (toN l) O)
  have HO := Lib.hid hO
  clear h hI he T0 ho hO
  have hil : (ints O).length = m := by rw [ints_len, hOl]
  rw [hil]
  have Hil := Lib.hid hil
  clear hil hOl
  have H0 : Hid (takTo (toN l) O 0 = 0) := Lib.hid rfl
  generalize takTo (toN l) O = tk at *
  generalize toN l = L at *
  go_enter Try.func190, Try.ntmps190
  go_upto_region 2 with (first | (go_at_call 24; (with_reducible refine (KR.out).mono ?_); rintro e _ ⟨_, rfl, ⟨g, c, rfl, hT, hgB⟩, v1, rfl⟩))
  have HT := Lib.hid hT
  have HW1 : Hid (IntsAt v1.val.heap.size v1.val b (ints O)) := Lib.hid (HW.out.to v1)
  have HV1 : Hid (∀ y : Later v1.val.heap.size v1.val, ∃ w : Later B W, w.val = y.val) := Lib.hid (fun y => HV.out (v1.up y))
  obtain ⟨y, hy⟩ : ∃ y : Later v1.val.heap.size v1.val, y.val = v1.val := ⟨Later.self _, rfl⟩
  rw [← hy]
  clear hy hT hgB HV HW KR q0 q1 p0 p1 hrr
  generalize v1.val = V at *
  clear v1
  go_wp2
  go_loopw [7, 17] (fun o i wr => ∃ (k : Nat) (v : Later V.heap.size V), k ≤ m ∧ o = .int .i64 (tk k) ∧ i = .int .i64 k ∧ wr = v.val) (fun _ i _ => m - (intOf i).toNat)
  case atStart => exact ⟨0, y, by omega, by rw [H0.out]; rfl, rfl, rfl⟩
  case round =>
    clear y
    obtain ⟨k, v, hk, rfl, rfl, rfl⟩ := hrel
    by_cases hlt : k < m
    · obtain ⟨bb, off, rfl, hbB, hcell⟩ := HW1.out.at (k := k) (by rw [Hil.out]; exact hlt)
      have c0 : v.val.cell? ⟨bb, off + k, none⟩ = some (.int .i64 ((O.getD k 0 : Nat) : Int)) := by rw [← ints_getD]; exact hcell v k (by rw [Hil.out]; exact hlt)
      have hx := HO.out k hlt
      have ht := HTk.out k hk
      have ht2 : tk k ||| bit (O.getD k 0) < bit m := or_lt_bit ht (bit_lt_bit hx)
      have hbx := bit_lt (O.getD k 0) (by omega)
      have bc := bit_cast (O.getD k 0)
      have w1 : IntKind.i64.wrap (bit (O.getD k 0) : Int) = (bit (O.getD k 0) : Int) := IntWalk.i64_in _ (by omega)
      have o2 := i64_or (tk k) (bit (O.getD k 0)) (by omega) (by omega)
      have HTw : Hid (∀ w : Later v.val.heap.size v.val, ITab w.val g (bit m) (fun j => (rk L j : Int))) := Lib.hid (fun w => (HT.out.keep v.below).keep w.below)
      have c1 : ∀ w : Later v.val.heap.size v.val, w.val.cell? ⟨g, tk k ||| bit (O.getD k 0), none⟩ = some (.int .i64 (rk L (tk k ||| bit (O.getD k 0)) : Int)) := fun w => (HTw.out w).cell ht2
      have c2 : ∀ w : Later v.val.heap.size v.val, w.val.cell? ⟨g, tk k, none⟩ = some (.int .i64 (rk L (tk k) : Int)) := fun w => (HTw.out w).cell ht
      have HS := Lib.hid (HSt.out k)
      have hbz : (((tk k ||| bit (O.getD k 0) : Nat)) : Int) < (bit m : Int) := by omega
      have hbz2 : ((tk k : Nat) : Int) < (bit m : Int) := by omega
      clear hcell
      generalize O.getD k 0 = x at *
      generalize hz : tk k ||| bit x = z at *
      clear hz
      generalize rk L z = r1 at *
      generalize rk L (tk k) = r0 at *
      obtain ⟨y0, hy0⟩ : ∃ y : Later v.val.heap.size v.val, y.val = v.val := ⟨Later.self _, rfl⟩
      rcases nlt r0 r1 with ⟨g1, d1⟩ | ⟨g1, d1⟩
      · have HN : Hid (tk (k + 1) = z) := Lib.hid (by rw [HS.out, if_pos (by omega)])
        clear HS g1
        generalize tk k = s at *
        rw [← hy0] at c0 ⊢
        clear hy0
        go_wp2
        refine wp_region_later y0 (by kernel_rfl) (by kernel_rfl) (fun _ => ?_)
        repeat (first | go_big_quiet_step ((fail)) | (refine wpQuiet_step (fun K hK => ?_); go_simp; refine ⟨_, fun _ => rfl, ?_⟩; refine hK _ ?_; clear hK K))
        refine wpQuiet_nil ?_
        intro y0
        go_wp2
        go_roundw
        case rel => exact ⟨k+1, v.up y0, by omega, vint (by rw [HN.out]), by go_num, rfl⟩
        case measure => simp [intOf]; omega
      · have HN : Hid (tk (k + 1) = tk k) := Lib.hid (by rw [HS.out, if_neg (by omega)])
        clear HS g1
        rw [← hy0] at c0 ⊢
        clear hy0
        go_wp2
        refine wp_region_later y0 (by kernel_rfl) (by kernel_rfl) (fun _ => ?_)
        repeat (first | go_big_quiet_step ((fail)) | (refine wpQuiet_step (fun K hK => ?_); go_simp; refine ⟨_, fun _ => rfl, ?_⟩; refine hK _ ?_; clear hK K))
        refine wpQuiet_nil ?_
        intro y0
        go_wp2
        go_roundw
        case rel => exact ⟨k+1, v.up y0, by omega, vint (by rw [HN.out]), by go_num, rfl⟩
        case measure => simp [intOf]; omega
    · have hke : k = m := by omega
      subst hke
      go_wp2
      go_ret
      exact Ret.of (HV1.out v) rfl

set_option maxRecDepth 100000 in
set_option maxHeartbeats 8000000 in
theorem c_greedySum {B : Nat} {W : World} (u : Later B W) (m s : Nat) (hm : m ≤ 8) (hs : s < 256) (ws : List Int) (b : Option Addr) (capb : Nat) (hw : IntsAt B W b ws) (hp : PrcIs m ws 0) :
    Calls Try.prog 191 #[.slice b ws.length capb, .int .i64 s] u.val (Ret B W (.int .i64 (wsT (fun i => ws.getD i 0) s m))) := by
  obtain ⟨hl, hr⟩ := hp.ok
  have HW := Lib.hid hw
  have Hl := Lib.hid hl
  have HR := Lib.hid hr
  have HBd := Lib.hid (fun k hk => wsT_bd (s := s) hr k hk)
  have HS : Hid (∀ k, wsT (fun i => ws.getD i 0) s (k + 1) = wsT (fun i => ws.getD i 0) s k + ws.getD k 0 * (((s.testBit k).toNat : Nat) : Int)) := Lib.hid (fun k => rfl)
  have H0 : Hid (wsT (fun i => ws.getD i 0) s 0 = 0) := Lib.hid rfl
  rw [hl]
  clear hw hp hl hr
  generalize wsT (fun i => ws.getD i 0) s = A at *
  go_enter Try.func191, Try.ntmps191
  go_wp2
  go_loopw [5, 10] (fun o i wr => ∃ (k : Nat) (v : Later B W), k ≤ m ∧ o = .int .i64 (A k) ∧ i = .int .i64 k ∧ wr = v.val) (fun _ i _ => m - (intOf i).toNat)
  case atStart => exact ⟨0, u, by omega, by rw [H0.out], rfl, rfl⟩
  case round =>
    clear u
    obtain ⟨k, v, hk, rfl, rfl, rfl⟩ := hrel
    by_cases hlt : k < m
    · obtain ⟨bb, off, rfl, hbB, hcell⟩ := HW.out.at (k := k) (by rw [Hl.out]; exact hlt)
      have c0 : v.val.cell? ⟨bb, off + k, none⟩ = some (.int .i64 (ws.getD k 0)) := hcell v k (by rw [Hl.out]; exact hlt)
      have hb1 := HBd.out k hk
      have hb2 := HR.out k hlt
      have HN := Lib.hid (HS.out k)
      have s1 := shr_andG s k hs
      clear hcell
      generalize ws.getD k 0 = x at *
      generalize A k = p at *
      rcases btf (s.testBit k) with g1 | g1
      · rw [g1] at HN s1
        rw [show ((true.toNat : Nat) : Int) = 1 from rfl] at HN s1
        go_wp2
        go_roundw
        case rel => exact ⟨k+1, v, by omega, vint (by rw [HN.out]; simp), by go_num, rfl⟩
        case measure => simp [intOf]; omega
      · rw [g1] at HN s1
        rw [show ((false.toNat : Nat) : Int) = 0 from rfl] at HN s1
        go_wp2
        go_roundw
        case rel => exact ⟨k+1, v, by omega, vint (by rw [HN.out]; simp), by go_num, rfl⟩
        case measure => simp [intOf]; omega
    · have hke : k = m := by omega
      subst hke
      go_wp2
      go_ret
      exact Ret.mk v rfl

set_option maxRecDepth 100000 in
set_option maxHeartbeats 8000000 in
theorem c_weighs {B : Nat} {W : World} (u : Later B W) (m s : Nat) (hm : m ≤ 8) (hs : s < bit m) (ws : List Int) (b : Option Addr) (capb : Nat) (hw : IntsAt B W b ws) (hp : PrcIs m ws 0) :
    Calls Try.prog 88 #[.slice b ws.length capb, .int .i64 s] u.val (Ret B W (.int .i64 (wsT (fun i => ws.getD i 0) s m))) := by
  obtain ⟨hl, hr⟩ := hp.ok
  have hb := bit_le m hm
  have HEm : Hid (∀ j, j < (elems s).length → (elems s).getD j 0 < m) := Lib.hid (fun j hj => lt_m_of_testBit hs (by
    have : (elems s).getD j 0 ∈ elems s := by simp [hj]
    have := (List.mem_filter.1 this).2
    simpa using this))
  have KE := Lib.hid (c_elements u s (by omega))
  have Hl := Lib.hid hl
  have HR := Lib.hid hr
  have HBd := Lib.hid (fun k hk => lsT_bd (l := elems s) hr HEm.out k hk)
  have HS : Hid (∀ k, lsT (fun i => ws.getD i 0) (elems s) (k + 1) = lsT (fun i => ws.getD i 0) (elems s) k + ws.getD ((elems s).getD k 0) 0) := Lib.hid (fun k => rfl)
  have H0 : Hid (lsT (fun i => ws.getD i 0) (elems s) 0 = 0) := Lib.hid rfl
  have HW := Lib.hid hw
  have hx8 : (elems s).length ≤ 8 := sz_le s
  rw [← ws_is hm hs]
  rw [hl]
  clear hw hp hl hr
  generalize lsT (fun i => ws.getD i 0) (elems s) = A at *
  generalize elems s = E at *
  have hil : (ints E).length = E.length := ints_len E
  go_enter Try.func88, Try.ntmps88
  go_upto_region 3 with (first | (go_at_call 159; (with_reducible refine (KE.out).mono ?_); rintro e _ ⟨_, rfl, ⟨ad, cp, rfl, hI, _⟩, v1, rfl⟩))
  try rw [hil]
  have HI : Hid (IntsAt v1.val.heap.size v1.val ad (ints E)) := Lib.hid hI
  have HW1 : Hid (IntsAt v1.val.heap.size v1.val b ws) := Lib.hid ((HW.out.later v1.below).mono v1.size)
  have HV : Hid (∀ y : Later v1.val.heap.size v1.val, ∃ w : Later B W, w.val = y.val) := Lib.hid (fun y => ⟨v1.up y, rfl⟩)
  obtain ⟨y, hy⟩ : ∃ y : Later v1.val.heap.size v1.val, y.val = v1.val := ⟨Later.self _, rfl⟩
  rw [← hy]
  clear hy KE HW hI u
  generalize v1.val = V at *
  clear v1
  have Hil := Lib.hid hil
  clear hil
  go_wp2
  go_loopw [5, 7] (fun o i wr => ∃ (k : Nat) (v : Later V.heap.size V), k ≤ E.length ∧ o = .int .i64 (A k) ∧ i = .int .i64 k ∧ wr = v.val) (fun _ i _ => E.length - (intOf i).toNat)
  case atStart => exact ⟨0, y, by omega, by rw [H0.out], rfl, rfl⟩
  case round =>
    clear y
    obtain ⟨k, v, hk, rfl, rfl, rfl⟩ := hrel
    by_cases hlt : k < E.length
    · obtain ⟨be, oe, rfl, hbe, hce⟩ := HI.out.at (k := k) (by rw [Hil.out]; exact hlt)
      have c0 : v.val.cell? ⟨be, oe + k, none⟩ = some (.int .i64 ((E.getD k 0 : Nat) : Int)) := by rw [← ints_getD]; exact hce v k (by rw [Hil.out]; exact hlt)
      have hx := HEm.out k hlt
      obtain ⟨bb, off, rfl, hbB, hcell⟩ := HW1.out.at (k := E.getD k 0) (by rw [Hl.out]; exact hx)
      have c1 : v.val.cell? ⟨bb, off + E.getD k 0, none⟩ = some (.int .i64 (ws.getD (E.getD k 0) 0)) := hcell v _ (by rw [Hl.out]; exact hx)
      have hb1 := HBd.out k hk
      have hb2 := HR.out _ hx
      have HN := Lib.hid (HS.out k)
      clear hcell hce
      generalize E.getD k 0 = x at *
      generalize ws.getD x 0 = wx at *
      generalize A k = p at *
      go_wp2
      go_roundw
      case rel => exact ⟨k+1, v, by omega, vint (by rw [HN.out]), by go_num, rfl⟩
      case measure => simp [intOf]; omega
    · have hke : k = E.length := by omega
      subst hke
      go_wp2
      go_ret
      exact Ret.of (HV.out v) rfl

end Go.Proofs.Ytjpcelldbhdneaa
