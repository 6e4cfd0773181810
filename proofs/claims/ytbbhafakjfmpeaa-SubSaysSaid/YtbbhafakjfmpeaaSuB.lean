
/-
  rotaref.Set of an order's first elements, sub.order, sub.Vertex.
-/
import Derived.Test.YtbbhafakjfmpeaaSuPl
import Derived.Test.YtbbhafakjfmpeaaSubW
import Derived.Test.YtbbhafakjfmpeaaGrD
namespace Go.Proofs.Ytbbhafakjfmpeaa
open Go.RowKit
set_option linter.unusedVariables false

set_option maxRecDepth 100000 in
set_option maxHeartbeats 8000000 in
theorem c_setOf {B : Nat} {W : World} (u : Later B W) (O : List Nat) (b : Option Addr) (cap k : Nat) (h : IntsAt B W b (ints O)) (hk : k ≤ O.length) (hk8 : k ≤ 8) (hO : ∀ j, j < k → O.getD j 0 < 8) :
    Calls Try.prog 10 #[.slice b k cap] u.val (Ret B W (.int .i64 (prfT O k))) := by
  have HI := Lib.hid h
  have HLt := Lib.hid (prfT_lt hO)
  have HS : Hid (∀ i, prfT O (i + 1) = prfT O i ||| bit (O.getD i 0)) := Lib.hid (fun i => rfl)
  have H0 : Hid (prfT O 0 = 0) := Lib.hid rfl
  have HOl : Hid (k ≤ (ints O).length) := Lib.hid (by rw [ints_len]; exact hk)
  have HO := Lib.hid hO
  clear h hO hk
  generalize prfT O = pf at *
  go_enter Try.func10, Try.ntmps10
  go_wp2
  go_loopw [3, 4] (fun s i wr => ∃ (j : Nat) (v : Later B W), j ≤ k ∧ s = .int .i64 (pf j) ∧ i = .int .i64 j ∧ wr = v.val) (fun _ i _ => k - (intOf i).toNat)
  case atStart => exact ⟨0, u, by omega, by rw [H0.out]; rfl, rfl, rfl⟩
  case round =>
    clear u
    obtain ⟨j, v, hj, rfl, rfl, rfl⟩ := hrel
    by_cases hlt : j < k
    · obtain ⟨bb, off, rfl, hbB, hcell⟩ := HI.out.at (k := j) (by have := HOl.out; omega)
      have c0 : v.val.cell? ⟨bb, off + j, none⟩ = some (.int .i64 ((O.getD j 0 : Nat) : Int)) := by rw [← ints_getD]; exact hcell v j (by have := HOl.out; omega)
      have hx := HO.out j hlt
      have ht : pf j < 256 := HLt.out j hj
      have HN := Lib.hid (HS.out j)
      clear hcell
      generalize O.getD j 0 = x at *
      have hbx := bit_lt x (by omega)
      have bc := bit_cast x
      have w1 : IntKind.i64.wrap (bit x : Int) = (bit x : Int) := IntWalk.i64_in _ (by omega)
      have o2 := i64_or (pf j) (bit x) (by omega) (by omega)
      go_wp2
      go_roundw
      case rel => exact ⟨j+1, v, by omega, vint (by rw [HN.out]), by go_num, rfl⟩
      case measure => simp [intOf]; omega
    · have hke : j = k := by omega
      subst hke
      go_wp2
      go_ret
      exact Ret.mk v rfl

set_option maxRecDepth 100000 in
set_option maxHeartbeats 8000000 in
theorem c_order {B : Nat} {W : World} (u : Later B W) (m : Nat) (hm : m ≤ 8) (p : List Int) (b : Option Addr) (capb : Nat) (hp : IntsAt B W b p) (hpl : p.length ≤ 4611686018427387904) :
    Calls Try.prog 16 #[.int .i64 m, .slice b p.length capb] u.val (Ret B W (.bool (decide (isOrd m p)))) := by
  have hb := bit_le m hm
  have HP := Lib.hid hp
  have HNo : Hid (¬ isOrd m p → decide (isOrd m p) = false) := Lib.hid (fun h => decide_eq_false h)
  have HSt := Lib.hid (fun k => @newTo_step m p k)
  have HBad := Lib.hid (fun k => @newTo_no m hm p k)
  have HS8 := Lib.hid (fun k => seenTo_lt hm p k)
  have HS : Hid (∀ k, seenTo m p (k + 1) = if 0 ≤ p.getD k 0 ∧ p.getD k 0 < m then seenTo m p k ||| bit (p.getD k 0).toNat else seenTo m p k) := Lib.hid (fun k => rfl)
  have HEnd : Hid (newTo m p p.length → p.length = m → isOrd m p) := Lib.hid (fun h1 h2 => (isOrd_iff hm).2 ⟨h2, by rw [← h2]; rw [← h2] at h1; exact h1⟩)
  have HLn : Hid (isOrd m p → p.length = m) := Lib.hid (fun h => h.1)
  have H0 : Hid (seenTo m p 0 = 0) := Lib.hid rfl
  have HR : Hid (decide (isOrd m p) = decide (isOrd m p)) := Lib.hid rfl
  clear hp
  generalize seenTo m p = sn at *
  generalize hR : decide (isOrd m p) = r at HNo HR ⊢
  have HRe := Lib.hid hR
  clear hR HR
  go_enter Try.func16, Try.ntmps16
  go_wp2
  go_loopw [5, 10] (fun o i wr => ∃ (k : Nat) (v : Later B W), k ≤ p.length ∧ o = .int .i64 (sn k) ∧ i = .int .i64 k ∧ wr = v.val ∧ Hid (newTo m p k)) (fun _ i _ => p.length - (intOf i).toNat)
  case atStart => exact ⟨0, u, by omega, by rw [H0.out]; rfl, rfl, rfl, Lib.hid (fun j hj => by omega)⟩
  case round =>
    clear u
    obtain ⟨k, v, hk, rfl, rfl, rfl, hf⟩ := hrel
    by_cases hlt : k < p.length
    · obtain ⟨bb, off, rfl, hbB, hcell⟩ := HP.out.at (k := k) hlt
      have c0 : v.val.cell? ⟨bb, off + k, none⟩ = some (.int .i64 (p.getD k 0)) := hcell v k hlt
      have h8 := HS8.out k
      have HX := Lib.hid (HSt.out k hf.out)
      have HY : Hid (¬ (0 ≤ p.getD k 0 ∧ p.getD k 0 < m ∧ (sn k).testBit (p.getD k 0).toNat = false) → r = false) := Lib.hid (fun h => HNo.out (HBad.out k hlt h))
      have HZ := Lib.hid (HS.out k)
      clear hcell hf
      generalize p.getD k 0 = x at *
      rcases ilt x 0 with ⟨g1, d1⟩ | ⟨g1, d1⟩
      · have HN := Lib.hid (HY.out (by omega))
        clear HX HY HZ g1
        go_wp2
        go_ret
        exact Ret.mk v (vbool HN.out.symm)
      obtain ⟨y, rfl⟩ := Int.eq_ofNat_of_zero_le g1
      rcases ile (m : Int) (y : Int) with ⟨g2, d2⟩ | ⟨g2, d2⟩
      · have HN := Lib.hid (HY.out (by omega))
        clear HX HY HZ g1
        go_wp2
        go_ret
        exact Ret.mk v (vbool HN.out.symm)
      have s1 := shr_andG (sn k) y (by omega)
      have hyt : ((y : Nat) : Int).toNat = y := by omega
      rw [hyt] at HX HY HZ
      rcases btf ((sn k).testBit y) with g3 | g3
      · have HN := Lib.hid (HY.out (by rw [g3]; simp))
        rw [g3] at s1
        rw [show ((true.toNat : Nat) : Int) = 1 from rfl] at s1
        clear HX HY HZ g1 g3
        go_wp2
        go_ret
        exact Ret.mk v (vbool HN.out.symm)
      · rw [g3] at s1
        rw [show ((false.toNat : Nat) : Int) = 0 from rfl] at s1
        have hby := bit_lt y (by omega)
        have bc := bit_cast y
        have w1 : IntKind.i64.wrap (bit y : Int) = (bit y : Int) := IntWalk.i64_in _ (by omega)
        have o2 := i64_or (sn k) (bit y) (by omega) (by omega)
        have HN := Lib.hid (HX.out ⟨by omega, by omega⟩ g3)
        have HN2 : Hid (sn (k + 1) = sn k ||| bit y) := Lib.hid (by rw [HZ.out, if_pos ⟨by omega, by omega⟩])
        rw [bc] at s1
        clear HX HY HZ g1 g3
        go_wp2
        go_roundw
        case rel => exact ⟨k+1, v, by omega, vint (by rw [HN2.out]), by go_num, rfl, HN⟩
        case measure => simp [intOf]; omega
    · have hke : k = p.length := by omega
      subst hke
      have HN : Hid (((p.length : Int) == (m : Int)) = r) := Lib.hid (by
        rw [← HRe.out, Bool.eq_iff_iff, beq_iff_eq, decide_eq_true_eq]
        constructor
        · intro e; exact HEnd.out hf.out (by omega)
        · intro e; have := HLn.out e; omega)
      clear HRe
      go_wp2
      go_ret
      exact Ret.mk v (vbool HN.out)

set_option maxRecDepth 100000 in
set_option maxHeartbeats 8000000 in
theorem c_vertex_no {B : Nat} {W : World} (u : Later B W) (n : Int) (f : List Int) (a : Option Addr) (cap : Nat) (e : Int) (h : IntsAt B W a f) (hlen : f.length ≤ 4611686018427387904) (he : SlwIs n f e) (h0 : e ≠ 0) (x : Value) :
    Calls Try.prog 5 #[.int .i64 n, .slice a f.length cap, x] u.val (Ret B W (.tuple #[.slice none 0 0, .int .i64 e])) := by
  have KC := Lib.hid (c_subCheck u n f a cap e h hlen he)
  have d0 : (e != 0) = true := by rw [bne_iff_ne]; exact h0
  clear h he h0
  go_enter Try.func5, Try.ntmps5
  go_wp2_with (first | (go_at_call 13; (with_reducible refine (KC.out).mono ?_); rintro e _ ⟨rfl, v1, rfl⟩))
  go_ret2
  exact Ret.mk v1 rfl

/-- the base's vertex by an order, as a list -/
def verL (m : Nat) (f p : List Int) : List Int := if isOrd m p then tabL m (verT (fun i => f.getD i 0) (toN p) m) else []

set_option maxRecDepth 100000 in
set_option maxHeartbeats 20000000 in
theorem c_vertex {B : Nat} {W : World} (u : Later B W) (m : Nat) (hm : m ≤ 8) (f p : List Int) (a b : Option Addr) (cap capb : Nat) (h : IntsAt B W a f) (hlen : f.length ≤ 4611686018427387904) (he : SlwIs (m : Int) f 0) (hp : IntsAt B W b p) (hpl : p.length ≤ 4611686018427387904) :
    Calls Try.prog 5 #[.int .i64 m, .slice a f.length cap, .slice b p.length capb] u.val (RetP B W (fun v w => ∃ ad cp, v = .tuple #[.slice ad (verL m f p).length cp, .int .i64 (errno (decide (isOrd m p)) 1)] ∧ IntsAt w.heap.size w ad (verL m f p))) := by
  have hb := bit_le m hm
  have hfun := he.zero.1
  have hfl := hfun.len
  have KC := Lib.hid (c_subCheck u (m : Int) f a cap 0 h hlen he)
  have KO := Lib.hid (fun v : Later B W => c_order v m hm p b capb hp hpl)
  by_cases ho : isOrd m p
  case neg =>
    have hv : verL m f p = [] := by unfold verL; rw [if_neg ho]
    have hd : decide (isOrd m p) = false := decide_eq_false ho
    rw [hv, hd, show errno false 1 = 1 from rfl]
    rw [hd] at KO
    clear he hfun hfl h hp ho hv hd
    go_enter Try.func5, Try.ntmps5
    go_wp2_with (first | (go_at_call 13; (with_reducible refine (KC.out).mono ?_); rintro e _ ⟨rfl, v1, rfl⟩) | (go_at_call 16; (with_reducible refine (KO.out _).mono ?_); rintro e _ ⟨rfl, v2, rfl⟩))
    go_ret2
    exact RetP.mk v2 ⟨none, 0, rfl, IntsAt.nil⟩
  obtain ⟨O, hO, hOl, hO2, _, _⟩ := isOrd_open hm ho
  have e1 : toN p = O := by
    rw [hO]; apply ints_inj; rw [ints_toN]
    intro i hi; rw [ints_getD]; omega
  have hv : verL m f p = tabL m (verT (fun i => f.getD i 0) O m) := by unfold verL; rw [if_pos ho, e1]
  have hd : decide (isOrd m p) = true := decide_eq_true ho
  rw [hv, hd, show errno true 1 = 0 from rfl]
  rw [hd] at KO
  have HF := Lib.hid h
  have HW : Hid (IntsAt B W b (ints O)) := Lib.hid (by rw [← hO]; exact hp)
  have hil : p.length = m := by rw [hO, ints_len, hOl]
  rw [hil] at KO ⊢
  have Hil : Hid ((ints O).length = m) := Lib.hid (by rw [ints_len, hOl])
  have HB := Lib.hid hfun.bound
  have HFl := Lib.hid hfl
  have HO2 := Lib.hid hO2
  have HLt := Lib.hid (prfT_lt hO2)
  have HS : Hid (∀ i, prfT O (i + 1) = prfT O i ||| bit (O.getD i 0)) := Lib.hid (fun i => rfl)
  have H0 : Hid (prfT O 0 = 0) := Lib.hid rfl
  have HV0 : Hid (∀ t, verT (fun i => f.getD i 0) O 0 t = 0) := Lib.hid (fun t => rfl)
  have HVs : Hid (∀ k t, verT (fun i => f.getD i 0) O (k + 1) t = if t = O.getD k 0 then f.getD (prfT O (k + 1)) 0 - f.getD (prfT O k) 0 else verT (fun i => f.getD i 0) O k t) := Lib.hid (fun k t => rfl)
  clear he hfun hfl h hp ho hv hd hO e1 hil hO2 hOl
  generalize hfl2 : f.length = fl at *
  have HFn := Lib.hid hfl2
  clear hfl2
  generalize verT (fun i => f.getD i 0) O = vt at *
  generalize prfT O = pf at *
  have hmk := mk_tab m (by omega)
  go_enter Try.func5, Try.ntmps5
  go_upto_region 6 with (first | (go_at_call 13; (with_reducible refine (KC.out).mono ?_); rintro e _ ⟨rfl, v1, rfl⟩) | (go_at_call 16; (with_reducible refine (KO.out _).mono ?_); rintro e _ ⟨rfl, v2, rfl⟩))
  go_upto_region 7 with fail
  clear KC KO hmk
  have HF2 : Hid (IntsAt v2.val.heap.size v2.val a f) := Lib.hid (HF.out.to v2 |>.mono (Nat.le_refl _))
  have HW2 : Hid (IntsAt v2.val.heap.size v2.val b (ints O)) := Lib.hid (HW.out.to v2)
  have HV : Hid (∀ y : Later v2.val.heap.size v2.val, ∃ w : Later B W, w.val = y.val) := Lib.hid (fun y => ⟨v2.up y, rfl⟩)
  clear HF HW
  generalize v2.val = V at *
  clear v2 v1 u
  have HT0 : Hid (ITab (V.alloc (.cells (madeCells #[Value.int .i64 0] m) 3)) V.heap.size m (vt 0)) := Lib.hid ((ITab.made V m).congr (fun t _ => by rw [HV0.out]))
  obtain ⟨y, hy⟩ : ∃ w : Later V.heap.size V, w.val = V.alloc (.cells (madeCells #[Value.int .i64 0] m) 3) := ⟨(Later.self V).alloc _, rfl⟩
  rw [← hy] at HT0 ⊢
  clear hy
  generalize hgd : V.heap.size = gd at *
  clear hgd
  go_wp2
  go_loopw [10, 27] (fun s i wr => ∃ (k : Nat) (v : Later gd V), k ≤ m ∧ s = .int .i64 (pf k) ∧ i = .int .i64 k ∧ wr = v.val ∧ Hid (ITab v.val gd m (vt k))) (fun _ i _ => m - (intOf i).toNat)
  case atStart => exact ⟨0, y, by omega, by rw [H0.out]; rfl, rfl, rfl, HT0⟩
  case round =>
    clear y HT0
    obtain ⟨k, v, hk, rfl, rfl, rfl, HT⟩ := hrel
    by_cases hlt : k < m
    · obtain ⟨bb, off, rfl, hbB, hcell⟩ := HW2.out.at (k := k) (by rw [Hil.out]; exact hlt)
      have c0 : v.val.cell? ⟨bb, off + k, none⟩ = some (.int .i64 ((O.getD k 0 : Nat) : Int)) := by rw [← ints_getD]; exact hcell v k (by rw [Hil.out]; exact hlt)
      have hx := HO2.out k hlt
      have ht : pf k < bit m := HLt.out k hk
      have ht1 : pf (k + 1) < bit m := HLt.out (k + 1) (by omega)
      have HN := Lib.hid (HS.out k)
      obtain ⟨bf, of, rfl, hbf, hcf⟩ := HF2.out.at (k := 0) (by have := HFl.out; have := HFn.out; omega)
      have c1 : ∀ w : Later v.val.heap.size v.val, w.val.cell? ⟨bf, of + pf (k + 1), none⟩ = some (.int .i64 (f.getD (pf (k + 1)) 0)) := fun w => hcf (v.up w) _ (by have := HFl.out; have := HFn.out; omega)
      have c2 : ∀ w : Later v.val.heap.size v.val, w.val.cell? ⟨bf, of + pf k, none⟩ = some (.int .i64 (f.getD (pf k) 0)) := fun w => hcf (v.up w) _ (by have := HFl.out; have := HFn.out; omega)
      have c3 : ∀ w : Later v.val.heap.size v.val, w.val.frozen? ⟨gd, O.getD k 0, none⟩ = false := fun w => (HT.out.keep w.below).frozen _
      have c4 : ∀ w : Later v.val.heap.size v.val, w.val.cell? ⟨gd, O.getD k 0, none⟩ = some (.int .i64 (vt k (O.getD k 0))) := fun w => (HT.out.keep w.below).cell hx
      have hB1 := HB.out (pf (k + 1))
      have hB2 := HB.out (pf k)
      have HSt : Hid (∀ w : World, ITab w gd m (vt k) → ITab (w.setCell ⟨gd, O.getD k 0, none⟩ (.int .i64 (f.getD (pf (k + 1)) 0 - f.getD (pf k) 0))) gd m (vt (k + 1))) := Lib.hid (fun w h => h.set _ _ (fun t _ => HVs.out k t))
      have hfz : ((pf (k + 1) : Nat) : Int) < (fl : Int) := by have := HFl.out; omega
      have hfz2 : ((pf k : Nat) : Int) < (fl : Int) := by have := HFl.out; omega
      clear hcell hcf
      generalize O.getD k 0 = x at *
      have hxz : (x : Int) < (m : Int) := by omega
      have hbx := bit_lt x (by omega)
      have bc := bit_cast x
      have w1 : IntKind.i64.wrap (bit x : Int) = (bit x : Int) := IntWalk.i64_in _ (by omega)
      have o2 := i64_or (pf k) (bit x) (by omega) (by omega)
      rw [← HN.out] at o2
      generalize hz : pf (k + 1) = z at *
      have Hz := Lib.hid hz
      clear hz
      generalize f.getD z 0 = fa at *
      generalize f.getD (pf k) 0 = fb at *
      have w3 := IntWalk.i64_in (fa - fb) (by omega)
      go_wp2
      refine wp_region_later_tail (Later.self v.val) 15 (by kernel_rfl) (by kernel_rfl) (fun v2 => ?_)
      simp only [List.take_succ_cons, List.take_zero, List.drop_succ_cons, List.drop_zero]
      repeat still_step
      refine wpStill_nil ?_
      go_wp2
      go_roundw
      case rel => exact ⟨k+1, (v.up v2).set ⟨gd, x, none⟩ (Nat.le_refl _) _, by omega, vint (by rw [Hz.out]), by go_num, rfl, Lib.hid (HSt.out _ (HT.out.keep v2.below))⟩
      case measure => simp [intOf]; omega
    · have hke : k = m := by omega
      subst hke
      have hll : (tabL k (vt k)).length = k := tabL_len _ _
      go_wp2
      go_ret2
      refine RetP.of (HV.out v) ⟨some ⟨gd, 0, none⟩, k, ?_, ?_⟩
      · rw [hll]; rfl
      · exact HT.out.ints

end Go.Proofs.Ytbbhafakjfmpeaa
