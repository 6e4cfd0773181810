
/-
  sub.Extended.
-/
import Derived.Test.YtbbhafakjfmpeaaSuB
import Derived.Test.YtbbhafakjfmpeaaSuE
namespace Go.Proofs.Ytbbhafakjfmpeaa
open Go.RowKit
set_option linter.unusedVariables false

set_option maxRecDepth 100000 in
set_option maxHeartbeats 8000000 in
theorem c_ext_no {B : Nat} {W : World} (u : Later B W) (n : Int) (f : List Int) (a b : Option Addr) (cap q capb : Nat) (h : IntsAt B W a f) (hlen : f.length ≤ 4611686018427387904) (hf : ¬ isFun n f) :
    Calls Try.prog 6 #[.int .i64 n, .slice a f.length cap, .slice b q capb] u.val (Ret B W (.tuple #[.int .i64 0, .int .i64 1])) := by
  have K0 := Lib.hid (c_form (u.alloc (.cells #[.slice b q capb] 22)) n f a cap h hlen)
  have KF : Hid (Calls Try.prog 17 #[.int .i64 n, .slice a f.length cap] (u.val.alloc (.cells #[.slice b q capb] 22)) (Ret B W (.int .i64 1))) := Lib.hid (by
    have := K0.out
    rwa [← errno_bad hf] at this)
  clear K0 h hf
  go_enter Try.func6, Try.ntmps6
  go_wp2_with (first | (go_at_call 17; (with_reducible refine (KF.out).mono ?_); rintro e _ ⟨rfl, v1, rfl⟩))
  go_ret2
  exact Ret.mk v1 rfl

def extV (m : Nat) (f ws : List Int) (e : Int) : Int := if e = 0 then extT (fun i => ws.getD i 0) (fun i => f.getD i 0) (rkd (fun i => ws.getD i 0) m) m else 0

theorem getD_memS {L : List Nat} {k : Nat} (h : k < L.length) : L.getD k 0 ∈ L := by simp [h]
theorem tblW_listS (w : Nat → Int) (m : Nat) : tabL m (fun t => (tblW w m t : Int)) = ints (rkd w m) := by
  have hl := rkd_len w m
  apply List.ext_getElem
  · rw [tabL_len, ints_len, hl]
  · intro i h1 h2
    rw [tabL_len] at h1
    simp only [tabL, List.getElem_map, List.getElem_range, ints]
    unfold tblW
    rw [if_pos h1]
    congr 1
    simp [show i < (rkd w m).length by omega]

set_option maxRecDepth 100000 in
set_option maxHeartbeats 20000000 in
theorem c_ext {B : Nat} {W : World} (u : Later B W) (m : Nat) (hm : m ≤ 8) (f ws : List Int) (a b : Option Addr) (cap capb : Nat) (h : IntsAt B W a f) (hlen : f.length ≤ 4611686018427387904) (hf : isFun (m : Int) f) (e : Int) (hw : IntsAt B W b ws) (hwl : ws.length ≤ 4611686018427387904) (hp : PrcIs m ws e) :
    Calls Try.prog 6 #[.int .i64 m, .slice a f.length cap, .slice b ws.length capb] u.val (Ret B W (.tuple #[.int .i64 (extV m f ws e), .int .i64 e])) := by
  have hb := bit_le m hm
  have hfl := hf.len
  have T1 : RowL (u.val.alloc (.cells #[.slice b ws.length capb] 22)) u.val.heap.size 22 [.slice b ws.length capb] := RowL.new _ _ _
  have hr1 : u.val.heap.size < (u.val.alloc (.cells #[.slice b ws.length capb] 22)).heap.size := by simp
  have HZf : Hid (IntsAt (u.val.alloc (.cells #[.slice b ws.length capb] 22)).heap.size (u.val.alloc (.cells #[.slice b ws.length capb] 22)) a f) := Lib.hid (h.to (u.alloc _))
  have HZw : Hid (IntsAt (u.val.alloc (.cells #[.slice b ws.length capb] 22)).heap.size (u.val.alloc (.cells #[.slice b ws.length capb] 22)) b ws) := Lib.hid (hw.to (u.alloc _))
  have K0 := Lib.hid (c_form (Later.self (u.val.alloc (.cells #[.slice b ws.length capb] 22))) m f a cap HZf.out hlen)
  have KF : Hid (Calls Try.prog 17 #[.int .i64 m, .slice a f.length cap] (u.val.alloc (.cells #[.slice b ws.length capb] 22)) (Ret (u.val.alloc (.cells #[.slice b ws.length capb] 22)).heap.size (u.val.alloc (.cells #[.slice b ws.length capb] 22)) (.int .i64 0))) := Lib.hid (by
    have := K0.out
    rwa [← errno_ok hf] at this)
  have q2 : ∀ w : Later (u.val.alloc (.cells #[.slice b ws.length capb] 22)).heap.size (u.val.alloc (.cells #[.slice b ws.length capb] 22)), w.val.cell? ⟨u.val.heap.size, 0, none⟩ = some (.slice b ws.length capb) := fun w => (T1.keep w.below).cell rfl
  have HV : Hid (∀ v : Later (u.val.alloc (.cells #[.slice b ws.length capb] 22)).heap.size (u.val.alloc (.cells #[.slice b ws.length capb] 22)), ∃ w : Later B W, w.val = v.val) := Lib.hid (fun v => ⟨(u.alloc _).up v, rfl⟩)
  have HP := Lib.hid hp
  have HBf := Lib.hid hf.bound
  have HFl := Lib.hid hfl
  clear T1 K0 h hw hp hf hfl
  by_cases hl : ws.length = m
  case neg =>
    have he := HP.out.1 hl
    subst he
    have hx : extV m f ws 3 = 0 := by unfold extV; rw [if_neg (by decide)]
    rw [hx]
    have d1 : ((ws.length : Int) != (m : Int)) = true := by rw [bne_iff_ne]; omega
    clear HP HZw HZf hl hx HFl HBf
    generalize ws.length = q at *
    generalize f.length = fl at *
    go_enter Try.func6, Try.ntmps6
    go_wp2_with (first | (go_at_call 17; (with_reducible refine (KF.out).mono ?_); rintro e _ ⟨rfl, v1, rfl⟩))
    go_ret2
    exact Ret.of (HV.out v1) rfl
  have H1 : Hid ((∃ i, i < m ∧ ¬ (-1000 ≤ ws.getD i 0 ∧ ws.getD i 0 ≤ 1000)) → extV m f ws e = 0 ∧ e = 1) := Lib.hid (fun h => by
    have := HP.out.2.1 hl h
    subst this
    exact ⟨by unfold extV; rw [if_neg (by decide)], rfl⟩)
  have H2 : Hid ((∀ i, i < m → -1000 ≤ ws.getD i 0 ∧ ws.getD i 0 ≤ 1000) → extV m f ws e = extT (fun i => ws.getD i 0) (fun i => f.getD i 0) (rkd (fun i => ws.getD i 0) m) m ∧ e = 0) := Lib.hid (fun h => by
    have := HP.out.2.2 hl h
    subst this
    exact ⟨by unfold extV; rw [if_pos rfl], rfl⟩)
  subst hl
  generalize hwl2 : ws.length = m at *
  have Hl := Lib.hid hwl2
  clear hwl2
  have d1 : ((m : Int) != (m : Int)) = false := by simp
  have HBd : Hid ((∀ i, i < m → -1000 ≤ ws.getD i 0 ∧ ws.getD i 0 ≤ 1000) → ∀ k, k ≤ m → -2000000 * (k : Int) ≤ extT (fun i => ws.getD i 0) (fun i => f.getD i 0) (rkd (fun i => ws.getD i 0) m) k ∧ extT (fun i => ws.getD i 0) (fun i => f.getD i 0) (rkd (fun i => ws.getD i 0) m) k ≤ 2000000 * (k : Int)) := Lib.hid (fun hr => extT_bd (w := fun i => ws.getD i 0) (f := fun i => f.getD i 0) (fun j hj => (rkd_mem _ _ m).1 (getD_memS (by rw [rkd_len]; exact hj))) hr HBf.out)
  clear HP
  generalize extV m f ws e = rV at *
  generalize hfl2 : f.length = fl at *
  have HFn := Lib.hid hfl2
  clear hfl2
  go_enter Try.func6, Try.ntmps6
  go_upto_region 6 with (first | (go_at_call 17; (with_reducible refine (KF.out).mono ?_); rintro e _ ⟨rfl, v1, rfl⟩))
  have s2 : ∀ w : Later v1.val.heap.size v1.val, w.val.cell? ⟨u.val.heap.size, 0, none⟩ = some (.slice b m capb) := fun w => q2 (v1.up w)
  have HV1 : Hid (∀ v : Later v1.val.heap.size v1.val, ∃ w : Later B W, w.val = v.val) := Lib.hid (fun v => HV.out (v1.up v))
  have HF1 : Hid (IntsAt v1.val.heap.size v1.val a f) := Lib.hid (HZf.out.to v1)
  have HW1 : Hid (IntsAt v1.val.heap.size v1.val b ws) := Lib.hid (HZw.out.to v1)
  have hgw : u.val.heap.size < v1.val.heap.size := Nat.lt_of_lt_of_le hr1 v1.size
  clear q2 HV HZf HZw hr1 KF
  generalize u.val.heap.size = g0 at *
  generalize v1.val = V at *
  clear v1 u
  have HsV : Hid (V.cell? ⟨g0, 0, none⟩ = some (.slice b m capb)) := Lib.hid (s2 (Later.self V))
  have hmk := mk_tab m (by omega)
  go_upto_region 7 with fail
  clear hmk
  have HT0 : Hid (ITab (V.alloc (.cells (madeCells #[Value.int .i64 0] m) 3)) V.heap.size m (fun t => if t < 0 then (t : Int) else 0)) := Lib.hid ((ITab.made V m).congr (fun t _ => by rw [if_neg (Nat.not_lt_zero _)]))
  obtain ⟨y, hy⟩ : ∃ w : Later V.heap.size V, w.val = V.alloc (.cells (madeCells #[Value.int .i64 0] m) 3) := ⟨(Later.self V).alloc _, rfl⟩
  rw [← hy] at HT0 ⊢
  clear hy
  have Hgw := Lib.hid hgw
  clear hgw
  generalize hgd : V.heap.size = gd at *
  have Hgd := Lib.hid hgd
  clear hgd
  go_wp2
  go_loopw [30] (fun i wr => ∃ (k : Nat) (v : Later gd V), k ≤ m ∧ i = .int .i64 k ∧ wr = v.val ∧ Hid (ITab v.val gd m (fun t => if t < k then (t : Int) else 0)) ∧ Hid (∀ i, i < k → -1000 ≤ ws.getD i 0 ∧ ws.getD i 0 ≤ 1000)) (fun i _ => m - (intOf i).toNat)
  case atStart => exact ⟨0, y, by omega, rfl, rfl, HT0, Lib.hid (fun i hi => by omega)⟩
  case round =>
    clear y HT0
    obtain ⟨k, v, hk, rfl, rfl, HT, hf⟩ := hrel
    by_cases hlt : k < m
    · obtain ⟨bb, off, rfl, hbB, hcell⟩ := HW1.out.at (k := k) (by rw [Hl.out]; exact hlt)
      have c0 : v.val.cell? ⟨bb, off + k, none⟩ = some (.int .i64 (ws.getD k 0)) := hcell v k (by rw [Hl.out]; exact hlt)
      have c1' : v.val.frozen? ⟨gd, k, none⟩ = false := HT.out.frozen k
      have c2' : v.val.cell? ⟨gd, k, none⟩ = some (.int .i64 (if k < k then (k : Int) else 0)) := HT.out.cell hlt
      have HX : Hid (¬ (-1000 ≤ ws.getD k 0 ∧ ws.getD k 0 ≤ 1000) → rV = 0 ∧ e = 1) := Lib.hid (fun h => H1.out ⟨k, hlt, h⟩)
      have HY : Hid (-1000 ≤ ws.getD k 0 ∧ ws.getD k 0 ≤ 1000 → ∀ i, i < k + 1 → -1000 ≤ ws.getD i 0 ∧ ws.getD i 0 ≤ 1000) := Lib.hid (fun h i hi => by
        by_cases c : i = k
        · subst c; exact h
        · exact hf.out i (by omega))
      clear hcell hf
      generalize ws.getD k 0 = x at *
      rcases ilt x (-1000) with ⟨g1, d2⟩ | ⟨g1, d2⟩ <;> rcases ilt 1000 x with ⟨g2, d3⟩ | ⟨g2, d3⟩
      case inr.inr =>
        have HN := Lib.hid (HY.out ⟨by omega, by omega⟩)
        clear HX HY g1 g2
        go_wp2
        go_roundw
        case rel => exact ⟨k+1, v.set ⟨gd, k, none⟩ (Nat.le_refl _) _, by omega, by go_num, rfl, Lib.hid (HT.out.set k (k : Int) (fun t _ => by
          by_cases c : t = k
          · subst c; rw [if_pos (Nat.lt_succ_self _), if_pos rfl]
          · rw [if_neg c]
            by_cases c2 : t < k
            · rw [if_pos c2, if_pos (by omega)]
            · rw [if_neg c2, if_neg (by omega)])), HN⟩
        case measure => simp [intOf]; omega
      all_goals
        obtain ⟨rfl, rfl⟩ := HX.out (by omega)
        clear HX HY g1 g2
        go_wp2
        go_ret2
        exact Ret.of (HV1.out v) rfl
    · have hke : k = m := by omega
      subst hke
      obtain ⟨hrV, rfl⟩ := H2.out hf.out
      have HrV := Lib.hid hrV
      clear hrV
      have HT2 : Hid (ITab v.val gd k (fun t => (tblW (fun i => ws.getD i 0) 0 t : Int))) := Lib.hid (HT.out.congr (fun t ht => by
        rw [if_pos ht]; unfold tblW; rw [if_neg (Nat.not_lt_zero _)]))
      have KS := Lib.hid (c_stable v k gd g0 hm (Nat.le_refl _) Hgw.out ws b capb HW1.out Hl.out HsV.out HT2.out)
      have hRl : (rkd (fun i => ws.getD i 0) k).length = k := rkd_len _ _
      have HRm : Hid (∀ j, j < k → (rkd (fun i => ws.getD i 0) k).getD j 0 < k) := Lib.hid (fun j hj => by
        exact (rkd_mem _ _ k).1 (getD_memS (by rw [rkd_len]; exact hj)))
      have HBd2 := Lib.hid (HBd.out hf.out)
      have HR := Lib.hid hf.out
      have HLt := Lib.hid (prfT_lt HRm.out)
      have HE : Hid (∀ j, extT (fun i => ws.getD i 0) (fun i => f.getD i 0) (rkd (fun i => ws.getD i 0) k) (j + 1) = extT (fun i => ws.getD i 0) (fun i => f.getD i 0) (rkd (fun i => ws.getD i 0) k) j + ws.getD ((rkd (fun i => ws.getD i 0) k).getD j 0) 0 * (f.getD (prfT (rkd (fun i => ws.getD i 0) k) (j + 1)) 0 - f.getD (prfT (rkd (fun i => ws.getD i 0) k) j) 0)) := Lib.hid (fun j => rfl)
      have HE0 : Hid (extT (fun i => ws.getD i 0) (fun i => f.getD i 0) (rkd (fun i => ws.getD i 0) k) 0 = 0) := Lib.hid rfl
      have HPs : Hid (∀ j, prfT (rkd (fun i => ws.getD i 0) k) (j + 1) = prfT (rkd (fun i => ws.getD i 0) k) j ||| bit ((rkd (fun i => ws.getD i 0) k).getD j 0)) := Lib.hid (fun j => rfl)
      have HP0 : Hid (prfT (rkd (fun i => ws.getD i 0) k) 0 = 0) := Lib.hid rfl
      have HTL := Lib.hid (tblW_listS (fun i => ws.getD i 0) k)
      clear HT HT2 H1 H2 hf HBd
      generalize tblW (fun i => ws.getD i 0) k = tb at *
      generalize extT (fun i => ws.getD i 0) (fun i => f.getD i 0) (rkd (fun i => ws.getD i 0) k) = E at *
      generalize prfT (rkd (fun i => ws.getD i 0) k) = pf at *
      generalize rkd (fun i => ws.getD i 0) k = O at *
      have HRl := Lib.hid hRl
      clear hRl
      go_upto_region 15 with (first | (go_at_call 18; (with_reducible refine (KS.out).mono ?_); rintro e _ ⟨rfl, v2, rfl, hT⟩))
      have HI2 : Hid (IntsAt v2.val.heap.size v2.val (some ⟨gd, 0, none⟩) (ints O)) := Lib.hid (by
        have := hT.ints
        rwa [HTL.out] at this)
      have HF2 : Hid (IntsAt v2.val.heap.size v2.val a f) := Lib.hid (HF1.out.to v2)
      have HW2 : Hid (IntsAt v2.val.heap.size v2.val b ws) := Lib.hid (HW1.out.to v2)
      have s3 : ∀ w : Later v2.val.heap.size v2.val, w.val.cell? ⟨g0, 0, none⟩ = some (.slice b k capb) := fun w => s2 (v2.up w)
      have HV2 : Hid (∀ w : Later v2.val.heap.size v2.val, ∃ w' : Later B W, w'.val = w.val) := Lib.hid (fun w => HV1.out (v2.up w))
      clear KS hT HTL HF1 HW1 s2 HsV Hgw Hgd HV1
      obtain ⟨y, hy⟩ : ∃ y : Later v2.val.heap.size v2.val, y.val = v2.val := ⟨Later.self _, rfl⟩
      rw [← hy]
      clear hy
      generalize v2.val = V2 at *
      clear v2 v
      go_wp2
      go_loopw [12, 13, 51] (fun sm s i wr => ∃ (j : Nat) (w : Later V2.heap.size V2), j ≤ k ∧ sm = .int .i64 (E j) ∧ s = .int .i64 (pf j) ∧ i = .int .i64 j ∧ wr = w.val) (fun _ _ i _ => k - (intOf i).toNat)
      case atStart => exact ⟨0, y, by omega, by rw [HE0.out], by rw [HP0.out]; rfl, rfl, rfl⟩
      case round =>
        clear y
        obtain ⟨j, w, hj, rfl, rfl, rfl, rfl⟩ := hrel
        by_cases hjk : j < k
        · have c0 : w.val.cell? ⟨gd, j, none⟩ = some (.int .i64 ((O.getD j 0 : Nat) : Int)) := by
            obtain ⟨bo, oo, ho, _, hco⟩ := HI2.out.at (k := j) (by rw [ints_len, HRl.out]; exact hjk)
            simp only [Option.some.injEq, Addr.mk.injEq, and_true] at ho
            obtain ⟨rfl, rfl⟩ := ho
            have := hco w j (by rw [ints_len, HRl.out]; exact hjk)
            rwa [ints_getD, Nat.zero_add] at this
          have hx := HRm.out j hjk
          have ht : pf j < bit k := HLt.out j hj
          have ht1 : pf (j + 1) < bit k := HLt.out (j + 1) (by omega)
          have HN := Lib.hid (HPs.out j)
          have HN2 := Lib.hid (HE.out j)
          obtain ⟨bf, of, rfl, hbf, hcf⟩ := HF2.out.at (k := 0) (by have := HFl.out; have := HFn.out; omega)
          obtain ⟨bb, off, rfl, hbB, hcell⟩ := HW2.out.at (k := 0) (by rw [Hl.out]; omega)
          have c1 : ∀ z : Later w.val.heap.size w.val, z.val.cell? ⟨bf, of + pf (j + 1), none⟩ = some (.int .i64 (f.getD (pf (j + 1)) 0)) := fun z => hcf (w.up z) _ (by have := HFl.out; have := HFn.out; omega)
          have c2 : ∀ z : Later w.val.heap.size w.val, z.val.cell? ⟨bf, of + pf j, none⟩ = some (.int .i64 (f.getD (pf j) 0)) := fun z => hcf (w.up z) _ (by have := HFl.out; have := HFn.out; omega)
          have c3 : ∀ z : Later w.val.heap.size w.val, z.val.cell? ⟨bb, off + O.getD j 0, none⟩ = some (.int .i64 (ws.getD (O.getD j 0) 0)) := fun z => hcell (w.up z) _ (by rw [Hl.out]; exact hx)
          have c4 : ∀ z : Later w.val.heap.size w.val, z.val.cell? ⟨g0, 0, none⟩ = some (.slice (some ⟨bb, off, none⟩) k capb) := fun z => s3 (w.up z)
          have hB1 := HBf.out (pf (j + 1))
          have hB2 := HBf.out (pf j)
          have hB3 := HR.out _ hx
          have hB4 := HBd2.out j hj
          have hfz : ((pf (j + 1) : Nat) : Int) < (fl : Int) := by have := HFl.out; omega
          have hfz2 : ((pf j : Nat) : Int) < (fl : Int) := by have := HFl.out; omega
          clear hcell hcf
          generalize O.getD j 0 = x at *
          have hxz : (x : Int) < (k : Int) := by omega
          have hbx := bit_lt x (by omega)
          have bc := bit_cast x
          have w1 : IntKind.i64.wrap (bit x : Int) = (bit x : Int) := IntWalk.i64_in _ (by omega)
          have o2 := i64_or (pf j) (bit x) (by omega) (by omega)
          rw [← HN.out] at o2
          generalize hz : pf (j + 1) = z at *
          have Hz := Lib.hid hz
          clear hz
          generalize f.getD z 0 = fa at *
          generalize f.getD (pf j) 0 = fb at *
          generalize ws.getD x 0 = wx at *
          have hB5 := step_bd (a := wx) (b := fa - fb) hB3 (by omega)
          have w3 := IntWalk.i64_in (fa - fb) (by omega)
          have w4 := IntWalk.i64_in (wx * (fa - fb)) (by omega)
          have w5 := IntWalk.i64_in (E j + wx * (fa - fb)) (by omega)
          clear hB5
          obtain ⟨y0, hy0⟩ : ∃ y : Later w.val.heap.size w.val, y.val = w.val := ⟨Later.self _, rfl⟩
          rw [← hy0] at c0 ⊢
          clear hy0
          go_wp2
          refine wp_region_later y0 (by kernel_rfl) (by kernel_rfl) (fun _ => ?_)
          repeat (first | go_big_quiet_step ((fail)) | (refine wpQuiet_step (fun K hK => ?_); go_simp; refine ⟨_, fun _ => rfl, ?_⟩; refine hK _ ?_; clear hK K))
          refine wpQuiet_nil ?_
          intro y0
          go_wp2
          go_roundw
          case rel => exact ⟨j+1, w.up y0, by omega, vint (by rw [HN2.out]), vint (by rw [Hz.out]), by go_num, rfl⟩
          case measure => simp [intOf]; omega
        · have hje : j = k := by omega
          subst hje
          go_wp2
          go_ret2
          exact Ret.of (HV2.out w) (by rw [HrV.out]; rfl)

end Go.Proofs.Ytbbhafakjfmpeaa
