
/-
  rotaref.Values.
-/
import Derived.Test.YtmhjhdgaecdloaaVaE
import Derived.Test.YtmhjhdgaecdloaaElems
namespace Go.Proofs.Ytmhjhdgaecdloaa
open Go.RowKit
set_option linter.unusedVariables false

set_option maxRecDepth 100000 in
set_option maxHeartbeats 4000000 in
theorem c_valAt {B : Nat} {W : World} (u : Later B W) (n : Int) (vl : List (Int × Int)) (a am : Option Addr) (cap capm gm gl : Nat) (v : Int) (h : EdgesAt B W a vl) (hm : IntsAt B W am (valB vl)) (hlen : vl.length ≤ 17592186044416) (hgm : gm < B) (hgl : gl < B) (h1 : W.cell? ⟨gm, 1, none⟩ = some (.slice am (valB vl).length capm)) (hl : W.cell? ⟨gl, 0, none⟩ = some (.slice a vl.length cap)) :
    Calls Try.prog 17 #[.int .i64 v, .pointer (some ⟨gm, 0, none⟩), .pointer (some ⟨gl, 0, none⟩)] u.val (Ret B W (.tuple #[.int .i64 (valI vl v), .bool (decide (v ∈ valB vl))])) := by
  have q1 : ∀ w : Later B W, w.val.cell? ⟨gm, 1, none⟩ = some (.slice am (valB vl).length capm) := fun w => by rw [w.cell hgm, h1]
  have q0 : ∀ w : Later B W, w.val.cell? ⟨gl, 0, none⟩ = some (.slice a vl.length cap) := fun w => by rw [w.cell hgl, hl]
  have q1u := q1 u
  have KI := Lib.hid (c_index u (valB vl) v am capm hm (by rw [valB_len]; omega))
  have HE := Lib.hid h
  have HL : Hid ((valB vl).length = vl.length) := Lib.hid (valB_len vl)
  by_cases hv : v ∈ valB vl
  · have hi : idx (valB vl) v = ((valB vl).idxOf v : Nat) := by unfold idx; rw [if_pos hv]
    have hlt : (valB vl).idxOf v < vl.length := by rw [← valB_len]; exact List.idxOf_lt_length_of_mem hv
    have hr : valI vl v = (vl.getD ((valB vl).idxOf v) (0, 0)).2 := by unfold valI; rw [if_pos hv]
    rw [hi] at KI
    rw [decide_eq_true hv, hr]
    obtain ⟨b, off, rfl, hb, hc⟩ := HE.out.at hlt
    have c1 : ∀ w : Later B W, w.val.cell? ⟨b, off + (valB vl).idxOf v * 2 + 1, none⟩ = some (.int .i64 (vl.getD ((valB vl).idxOf v) (0, 0)).2) := fun w => (hc w _ hlt).2
    clear hc hr hi hv h hm h1 hl
    generalize (valB vl).idxOf v = p at *
    generalize (vl.getD p (0, 0)).2 = z at *
    have d0 : decide ((p : Int) < 0) = false := decide_eq_false (by omega)
    go_enter Try.func17, Try.ntmps17
    go_upto_region 4 with (first | (go_at_call 18; (with_reducible refine (KI.out).mono ?_); rintro e _ ⟨rfl, v1, rfl⟩))
    have q0v := q0 v1
    have c1v := c1 v1
    go_wp2
    go_ret2
    exact Ret.mk v1 rfl
  · have hi : idx (valB vl) v = -1 := by unfold idx; rw [if_neg hv]
    have hr : valI vl v = 0 := by unfold valI; rw [if_neg hv]
    rw [hi] at KI
    rw [decide_eq_false hv, hr]
    clear hr hi hv h hm h1 hl
    go_enter Try.func17, Try.ntmps17
    go_wp2_with (first | (go_at_call 18; (with_reducible refine (KI.out).mono ?_); rintro e _ ⟨rfl, v1, rfl⟩))
    go_ret2
    exact Ret.mk v1 rfl

set_option maxRecDepth 100000 in
set_option maxHeartbeats 40000000 in
theorem c_refValues {B : Nat} {W : World} (u : Later B W) (n : Int) (vl : List (Int × Int)) (a : Option Addr) (cap : Nat) (h : EdgesAt B W a vl) (hlen : vl.length ≤ 17592186044416) (r : Int) (hr : VlIs n vl r) :
    Calls Try.prog 4 #[.int .i64 n, .slice a vl.length cap] u.val (Ret B W (.int .i64 r)) := by
  obtain ⟨me, hm, hr1, hr2, hr3⟩ := hr
  have hlen2 : vl.length ≤ 4611686018427387904 := by omega
  have TL : RowL (u.val.alloc (.cells #[.slice a vl.length cap] 22)) u.val.heap.size 22 [.slice a vl.length cap] := RowL.new _ _ _
  have HE : Hid (EdgesAt (u.val.alloc (.cells #[.slice a vl.length cap] 22)).heap.size (u.val.alloc (.cells #[.slice a vl.length cap] 22)) a vl) := Lib.hid (h.to (u.alloc _))
  have l0 : ∀ w : Later (u.val.alloc (.cells #[.slice a vl.length cap] 22)).heap.size (u.val.alloc (.cells #[.slice a vl.length cap] 22)), w.val.cell? ⟨u.val.heap.size, 0, none⟩ = some (.slice a vl.length cap) := fun w => (TL.keep w.below).cell rfl
  have l0z := l0 (Later.self (u.val.alloc (.cells #[.slice a vl.length cap] 22)))
  dsimp only [Later.self] at l0z
  have HV : Hid (∀ v : Later (u.val.alloc (.cells #[.slice a vl.length cap] 22)).heap.size (u.val.alloc (.cells #[.slice a vl.length cap] 22)), ∃ w : Later B W, w.val = v.val) := Lib.hid (fun v => ⟨(u.alloc _).up v, rfl⟩)
  have hgl : u.val.heap.size < (u.val.alloc (.cells #[.slice a vl.length cap] 22)).heap.size := TL.lt
  have KU := Lib.hid (c_refUnder (Later.self (u.val.alloc (.cells #[.slice a vl.length cap] 22))) n vl a cap HE.out hlen)
  dsimp only [Later.self] at KU
  clear TL h
  go_enter Try.func4, Try.ntmps4
  go_upto_region 2 with (first | (go_at_call 15; (with_reducible refine (KU.out).mono ?_); rintro e _ ⟨_, rfl, ⟨am, cpm, rfl, hIm⟩, v1, rfl⟩))
  clear KU l0z
  generalize u.val.heap.size = gl at *
  generalize (u.val.alloc (.cells #[.slice a vl.length cap] 22)) = W1 at *
  have TM : RowL (v1.val.alloc (.cells #[.int .i64 n, .slice am (valB vl).length cpm] 29)) v1.val.heap.size 29 [.int .i64 n, .slice am (valB vl).length cpm] := RowL.new _ _ _
  have HIm : Hid (IntsAt (v1.val.alloc (.cells #[.int .i64 n, .slice am (valB vl).length cpm] 29)).heap.size (v1.val.alloc (.cells #[.int .i64 n, .slice am (valB vl).length cpm] 29)) am (valB vl)) := Lib.hid (hIm.to ((Later.self v1.val).alloc _))
  have HE2 : Hid (EdgesAt (v1.val.alloc (.cells #[.int .i64 n, .slice am (valB vl).length cpm] 29)).heap.size (v1.val.alloc (.cells #[.int .i64 n, .slice am (valB vl).length cpm] 29)) a vl) := Lib.hid (HE.out.to (v1.alloc _))
  have HV2 : Hid (∀ v : Later (v1.val.alloc (.cells #[.int .i64 n, .slice am (valB vl).length cpm] 29)).heap.size (v1.val.alloc (.cells #[.int .i64 n, .slice am (valB vl).length cpm] 29)), ∃ w : Later B W, w.val = v.val) := Lib.hid (fun v => HV.out ((v1.alloc _).up v))
  have m0 : ∀ w : Later (v1.val.alloc (.cells #[.int .i64 n, .slice am (valB vl).length cpm] 29)).heap.size (v1.val.alloc (.cells #[.int .i64 n, .slice am (valB vl).length cpm] 29)), w.val.cell? ⟨v1.val.heap.size, 0, none⟩ = some (.int .i64 n) := fun w => (TM.keep w.below).cell rfl
  have m1 : ∀ w : Later (v1.val.alloc (.cells #[.int .i64 n, .slice am (valB vl).length cpm] 29)).heap.size (v1.val.alloc (.cells #[.int .i64 n, .slice am (valB vl).length cpm] 29)), w.val.cell? ⟨v1.val.heap.size, 1, none⟩ = some (.slice am (valB vl).length cpm) := fun w => (TM.keep w.below).cell rfl
  have l1 : ∀ w : Later (v1.val.alloc (.cells #[.int .i64 n, .slice am (valB vl).length cpm] 29)).heap.size (v1.val.alloc (.cells #[.int .i64 n, .slice am (valB vl).length cpm] 29)), w.val.cell? ⟨gl, 0, none⟩ = some (.slice a vl.length cap) := fun w => l0 ((v1.alloc _).up w)
  have hgm : v1.val.heap.size < (v1.val.alloc (.cells #[.int .i64 n, .slice am (valB vl).length cpm] 29)).heap.size := TM.lt
  have hgl2 : gl < (v1.val.alloc (.cells #[.int .i64 n, .slice am (valB vl).length cpm] 29)).heap.size := by have := (v1.alloc (.cells #[.int .i64 n, .slice am (valB vl).length cpm] 29)).size; exact Nat.lt_of_lt_of_le hgl this
  have KM := Lib.hid (fun w : Later (v1.val.alloc (.cells #[.int .i64 n, .slice am (valB vl).length cpm] 29)).heap.size (v1.val.alloc (.cells #[.int .i64 n, .slice am (valB vl).length cpm] 29)) => c_refMatroid w n (valB vl) am cpm me HIm.out (by rw [valB_len]; omega) hm)
  obtain ⟨y, hy⟩ : ∃ y : Later (v1.val.alloc (.cells #[.int .i64 n, .slice am (valB vl).length cpm] 29)).heap.size (v1.val.alloc (.cells #[.int .i64 n, .slice am (valB vl).length cpm] 29)), y.val = (v1.val.alloc (.cells #[.int .i64 n, .slice am (valB vl).length cpm] 29)) := ⟨Later.self _, rfl⟩
  have m0y := m0 y
  have m1y := m1 y
  rw [← hy]
  clear TM hIm HE l0 hgl HV
  generalize v1.val.heap.size = gm at *
  generalize (v1.val.alloc (.cells #[.int .i64 n, .slice am (valB vl).length cpm] 29)) = W2 at *
  clear hy v1 u
  by_cases h0 : me = 0
  case neg =>
    have HR : Hid (r = me) := Lib.hid (by
      have e : undE vl me = me := by unfold undE; rw [if_neg h0]
      rw [e] at hr1
      exact hr1 h0)
    have d0 : (me != 0) = true := by rw [bne_iff_ne]; exact h0
    clear hr1 hr2 hr3 hm h0
    go_wp2_with (first | (go_at_call 16; (with_reducible refine (KM.out _).mono ?_); rintro e _ ⟨rfl, v1, rfl⟩))
    go_ret
    exact Ret.of (HV2.out v1) (vint HR.out.symm)
  subst h0
  have HR1 : Hid (¬ rngTo vl vl.length → r = 1) := Lib.hid (fun c => by
    have e : undE vl 0 = 1 := by unfold undE; rw [if_pos rfl, if_neg c]
    rw [e] at hr1
    exact hr1 (by decide))
  have HOk : Hid (rngTo vl vl.length → VlOk n vl ∧ (ExV (vlL vl) (valN vl) → r = 0) ∧ (¬ ExV (vlL vl) (valN vl) → r = 6)) := Lib.hid (fun c => by
    have e : undE vl 0 = 0 := by unfold undE; rw [if_pos rfl, if_pos c]
    exact ⟨(undE_ok hm e).2, hr2 e, hr3 e⟩)
  clear hr1 hr2 hr3 hm
  go_upto_region 5 with (first | (go_at_call 16; (with_reducible refine (KM.out _).mono ?_); rintro e _ ⟨rfl, v1, rfl⟩))
  clear KM m0y m1y y
  have KAt : Hid (∀ (x : Later W2.heap.size W2) (w : Later x.val.heap.size x.val) (b : Int), Calls Try.prog 17 #[.int .i64 b, .pointer (some ⟨gm, 0, none⟩), .pointer (some ⟨gl, 0, none⟩)] w.val (Ret x.val.heap.size x.val (.tuple #[.int .i64 (valI vl b), .bool (decide (b ∈ valB vl))]))) := Lib.hid (fun x w b => c_valAt w n vl a am cap cpm gm gl b (HE2.out.to x) (HIm.out.to x) hlen (Nat.lt_of_lt_of_le hgm x.size) (Nat.lt_of_lt_of_le hgl2 x.size) (m1 x) (l1 x))
  go_wp2
  go_loopw [7] (fun i wr => ∃ (k : Nat) (v : Later W2.heap.size W2), k ≤ vl.length ∧ i = .int .i64 k ∧ wr = v.val ∧ Hid (rngTo vl k)) (fun i _ => vl.length - (intOf i).toNat)
  case atStart => exact ⟨0, v1, by omega, rfl, rfl, Lib.hid (fun i hi => by omega)⟩
  case round =>
    clear v1
    obtain ⟨k, v, hk, rfl, rfl, hf⟩ := hrel
    have l1v := l1 v
    by_cases hlt : k < vl.length
    · obtain ⟨b, off, rfl, hb, hc⟩ := HE2.out.at hlt
      have c1 := (hc v k hlt).2
      have HS := Lib.hid (@rngTo_step vl k hf.out)
      have HN : Hid (¬ (-1000 ≤ (vl.getD k (0, 0)).2 ∧ (vl.getD k (0, 0)).2 ≤ 1000) → r = 1) := Lib.hid (fun c => HR1.out (fun d => c (d k hlt)))
      clear hc hf HOk HR1
      generalize (vl.getD k (0, 0)).2 = z at *
      rcases ilt z (-1000) with ⟨g1, p1⟩ | ⟨g1, p1⟩
      · have HX := Lib.hid (HN.out (by omega))
        clear HN HS g1
        go_wp2
        go_ret
        exact Ret.of (HV2.out v) (vint HX.out.symm)
      · rcases ilt 1000 z with ⟨g2, p2⟩ | ⟨g2, p2⟩
        · have HX := Lib.hid (HN.out (by omega))
          clear HN HS g1 g2
          go_wp2
          go_ret
          exact Ret.of (HV2.out v) (vint HX.out.symm)
        · have HX := Lib.hid (HS.out (by omega) (by omega))
          clear HN HS g1 g2
          go_wp2
          go_roundw
          case rel => exact ⟨k+1, v, by omega, by go_num, rfl, HX⟩
          case measure => simp [intOf]; omega
    · have hke : k = vl.length := by omega
      subst hke
      obtain ⟨hok, hr1, hr2⟩ := HOk.out hf.out
      have h256 := hok.len256
      have HAt := Lib.hid (fun i (hi : i < vl.length) => hok.at_ hi)
      have HBd : Hid (∀ b : Nat, -1000 ≤ valN vl b ∧ valN vl b ≤ 1000) := Lib.hid (fun b => hok.bd b)
      have HEx : Hid (ExV (vlL vl) (valN vl) ↔ ∀ i, i < vl.length → ∀ j, j < vl.length → exVP (vlL vl) (valN vl) ((vlL vl).getD i 0) ((vlL vl).getD j 0)) := Lib.hid (by rw [← hok.len]; exact exV_getD)
      have HX1 := Lib.hid hr1
      have HX2 := Lib.hid hr2
      have KA : Hid (∀ (x : Later W2.heap.size W2) (w : Later x.val.heap.size x.val) (b : Nat), Calls Try.prog 17 #[.int .i64 b, .pointer (some ⟨gm, 0, none⟩), .pointer (some ⟨gl, 0, none⟩)] w.val (Ret x.val.heap.size x.val (.tuple #[.int .i64 (valN vl b), .bool (decide (b ∈ vlL vl))]))) := Lib.hid (fun x w b => by
        have := KAt.out x w (b : Int)
        rwa [decide_eq_decide.2 (hok.mem b)] at this)
      clear hok hr1 hr2 HOk HR1 hf KAt
      generalize valN vl = N at *
      generalize vlL vl = L at *
      go_wp2
      go_loopw [9] (fun i wr => ∃ (k : Nat) (v : Later W2.heap.size W2), k ≤ vl.length ∧ i = .int .i64 k ∧ wr = v.val ∧ Hid (∀ i, i < k → ∀ j, j < vl.length → exVP L N (L.getD i 0) (L.getD j 0))) (fun i _ => vl.length - (intOf i).toNat)
      case atStart => exact ⟨0, v, by omega, rfl, rfl, Lib.hid (fun i hi => by omega)⟩
      case round =>
        clear v l1v
        obtain ⟨i, v, hi, rfl, rfl, hf⟩ := hrel
        have l1v := l1 v
        by_cases hlt : i < vl.length
        case neg =>
          have hie : i = vl.length := by omega
          subst hie
          have HR := Lib.hid (HX1.out (HEx.out.2 hf.out))
          clear hf
          go_wp2
          go_ret
          exact Ret.of (HV2.out v) (vint HR.out.symm)
        obtain ⟨eA1, eA2, _, hA8⟩ := HAt.out i hlt
        obtain ⟨be, off, rfl, hbe, hce⟩ := HE2.out.at hlt
        have xa0 := fun w : Later W2.heap.size W2 => (hce w i hlt).1
        have xa1 := fun w : Later W2.heap.size W2 => (hce w i hlt).2
        rw [eA1] at xa0
        rw [eA2] at xa1
        have HCe := Lib.hid hce
        have hbA := HBd.out (L.getD i 0)
        have HFn : Hid ((∀ j, j < vl.length → exVP L N (L.getD i 0) (L.getD j 0)) → ∀ i', i' < i + 1 → ∀ j, j < vl.length → exVP L N (L.getD i' 0) (L.getD j 0)) := Lib.hid (fun h i' hi' j hj => by
          by_cases c : i' = i
          · subst c; exact h j hj
          · exact hf.out i' (by omega) j hj)
        have HNo : Hid ((∃ j, j < vl.length ∧ ¬ exVP L N (L.getD i 0) (L.getD j 0)) → r = 6) := Lib.hid (fun ⟨j, hj, h⟩ => HX2.out (fun c => h (HEx.out.1 c i hlt j hj)))
        clear hce eA1 eA2 hf
        generalize L.getD i 0 = A at *
        go_wp2
        go_loopw [10] (fun o wr => ∃ (j : Nat) (v : Later W2.heap.size W2), j ≤ vl.length ∧ o = .int .i64 j ∧ wr = v.val ∧ Hid (∀ j', j' < j → exVP L N A (L.getD j' 0))) (fun o _ => vl.length - (intOf o).toNat)
        case atStart => exact ⟨0, v, by omega, rfl, rfl, Lib.hid (fun i hi => by omega)⟩
        case round =>
          clear v l1v
          obtain ⟨j, v, hj, rfl, rfl, hf⟩ := hrel
          have l1v := l1 v
          by_cases hlt2 : j < vl.length
          case neg =>
            have hje : j = vl.length := by omega
            subst hje
            have HN := Lib.hid (HFn.out hf.out)
            clear hf
            go_wp2
            go_roundw
            case rel => exact ⟨i+1, v, by omega, by go_num, rfl, HN⟩
            case measure => simp [intOf]; omega
          obtain ⟨eB1, eB2, _, hB8⟩ := HAt.out j hlt2
          have xb0 := fun w : Later W2.heap.size W2 => (HCe.out w j hlt2).1
          have xb1 := fun w : Later W2.heap.size W2 => (HCe.out w j hlt2).2
          rw [eB1] at xb0
          rw [eB2] at xb1
          have hbB := HBd.out (L.getD j 0)
          have HFn2 : Hid (exVP L N A (L.getD j 0) → ∀ j', j' < j + 1 → exVP L N A (L.getD j' 0)) := Lib.hid (fun h j' hj' => by
            by_cases c : j' = j
            · subst c; exact h
            · exact hf.out j' (by omega))
          have HNo2 : Hid (¬ exVP L N A (L.getD j 0) → r = 6) := Lib.hid (fun h => HNo.out ⟨j, hlt2, h⟩)
          clear eB1 eB2 hf
          generalize L.getD j 0 = Bb at *
          have o1 := i64_andNot A Bb (by omega) (by omega)
          have o2 := i64_andNot Bb A (by omega) (by omega)
          have hAB : nand A Bb < 256 := nand_lt _ _ 8 hA8
          have hBA : nand Bb A < 256 := nand_lt _ _ 8 hB8
          have KE1 := Lib.hid (fun w : Later W2.heap.size W2 => c_elements (Later.self w.val) (nand A Bb) hAB)
          have KE2 := Lib.hid (fun w : Later W2.heap.size W2 => c_elements (Later.self w.val) (nand Bb A) hBA)
          go_upto_region 17 with fail
          refine wp_region_later v (by kernel_rfl) (by kernel_rfl) (fun _ => ?_)
          repeat (first | go_big_quiet_step ((fail)) | (refine wpQuiet_step (fun K hK => ?_); go_simp; refine ⟨_, fun _ => rfl, ?_⟩; refine hK _ ?_; clear hK K))
          refine wpQuiet_nil ?_
          intro v
          have KE1v := Lib.hid (KE1.out v)
          dsimp only [Later.self] at KE1v
          go_upto_region 19 with (first | (go_at_call 19; (with_reducible refine (KE1v.out).mono ?_); rintro e _ ⟨_, rfl, ⟨ao, co, rfl, hIo, _⟩, v2, rfl⟩))
          have KE2v := Lib.hid (KE2.out (v.up v2))
          dsimp only [Later.self, Later.up, Later.to] at KE2v
          have HIo := Lib.hid hIo
          clear hIo KE1v KE1 KE2
          go_upto_region 20 with (first | (go_at_call 19; (with_reducible refine (KE2v.out).mono ?_); rintro e _ ⟨_, rfl, ⟨ai, ci, rfl, hIi, _⟩, v3, rfl⟩))
          clear KE2v
          have HI1 : Hid (IntsAt v3.val.heap.size v3.val ao (ints (elems (nand A Bb)))) := Lib.hid (HIo.out.to v3)
          have HI2 : Hid (IntsAt v3.val.heap.size v3.val ai (ints (elems (nand Bb A)))) := Lib.hid hIi
          obtain ⟨x3, hx3⟩ : ∃ x3 : Later W2.heap.size W2, x3.val = v3.val := ⟨(v.up v2).up v3, rfl⟩
          have KA3 : Hid (∀ (w : Later v3.val.heap.size v3.val) (b : Nat), Calls Try.prog 17 #[.int .i64 b, .pointer (some ⟨gm, 0, none⟩), .pointer (some ⟨gl, 0, none⟩)] w.val (Ret v3.val.heap.size v3.val (.tuple #[.int .i64 (N b), .bool (decide (b ∈ L))]))) := Lib.hid (by rw [← hx3]; exact fun w b => KA.out x3 w b)
          have HV3 : Hid (∀ w : Later v3.val.heap.size v3.val, ∃ w' : Later W2.heap.size W2, w'.val = w.val) := Lib.hid (by rw [← hx3]; exact fun w => ⟨x3.up w, rfl⟩)
          have l3 : ∀ w : Later v3.val.heap.size v3.val, w.val.cell? ⟨gl, 0, none⟩ = some (.slice (some ⟨be, off, none⟩) vl.length cap) := fun w => by obtain ⟨w', hw'⟩ := HV3.out w; rw [← hw']; exact l1 w'
          have ya1 : ∀ w : Later v3.val.heap.size v3.val, w.val.cell? ⟨be, off + i * 2 + 1, none⟩ = some (.int .i64 (N A)) := fun w => by obtain ⟨w', hw'⟩ := HV3.out w; rw [← hw']; exact xa1 w'
          have yb1 : ∀ w : Later v3.val.heap.size v3.val, w.val.cell? ⟨be, off + j * 2 + 1, none⟩ = some (.int .i64 (N Bb)) := fun w => by obtain ⟨w', hw'⟩ := HV3.out w; rw [← hw']; exact xb1 w'
          have HEl1 := Lib.hid (fun k hk => elems_mem (nand A Bb) (i := k) hk)
          have HEl2 := Lib.hid (fun k hk => elems_mem (nand Bb A) (i := k) hk)
          have HAl1 : Hid (∀ x, A.testBit x = true → Bb.testBit x = false → ∃ k, k < (elems (nand A Bb)).length ∧ (elems (nand A Bb)).getD k 0 = x) := Lib.hid (fun x h1 h2 => by
            obtain ⟨k, h3, h4, _⟩ := elems_at (s := nand A Bb) (lt_of_testBit hA8 h1) (by rw [nand_testBit, h1, h2]; rfl)
            exact ⟨k, h3, h4⟩)
          have HAl2 : Hid (∀ x, Bb.testBit x = true → A.testBit x = false → ∃ k, k < (elems (nand Bb A)).length ∧ (elems (nand Bb A)).getD k 0 = x) := Lib.hid (fun x h1 h2 => by
            obtain ⟨k, h3, h4, _⟩ := elems_at (s := nand Bb A) (lt_of_testBit hB8 h1) (by rw [nand_testBit, h1, h2]; rfl)
            exact ⟨k, h3, h4⟩)
          have hz1 : (elems (nand A Bb)).length ≤ 8 := sz_le (nand A Bb)
          have hz2 : (elems (nand Bb A)).length ≤ 8 := sz_le (nand Bb A)
          have HL1 : Hid ((ints (elems (nand A Bb))).length = (elems (nand A Bb)).length) := Lib.hid (ints_len _)
          have HL2 : Hid ((ints (elems (nand Bb A))).length = (elems (nand Bb A)).length) := Lib.hid (ints_len _)
          obtain ⟨y, hy⟩ : ∃ y : Later v3.val.heap.size v3.val, y.val = v3.val := ⟨Later.self _, rfl⟩
          rw [← hy, HL1.out, HL2.out]
          clear hIi HIo hx3 hy o1 o2 hAB hBA xa0 xb0 xa1 xb1 l1v l1 KA x3
          generalize v3.val = W3 at *
          clear v3 v2
          generalize elems (nand A Bb) = E at *
          generalize elems (nand Bb A) = F at *
          generalize hel : E.length = el at *
          have Hel := Lib.hid hel
          clear hel
          generalize hfl : F.length = fl at *
          have Hfl := Lib.hid hfl
          clear hfl
          go_wp2
          go_loopw [15] (fun o wr => ∃ (x : Nat) (v : Later W3.heap.size W3), x ≤ el ∧ o = .int .i64 x ∧ wr = v.val ∧ Hid (∀ x', x' < x → exV L N A Bb (E.getD x' 0))) (fun o _ => el - (intOf o).toNat)
          case atStart => exact ⟨0, y, by omega, rfl, rfl, Lib.hid (fun i hi => by omega)⟩
          case round =>
            clear y v
            obtain ⟨x, v, hx, rfl, rfl, hf⟩ := hrel
            by_cases hltx : x < el
            case neg =>
              have hxe : x = el := by omega
              subst hxe
              have HN := Lib.hid (HFn2.out (fun e h1 h2 => by
                obtain ⟨k, hk1, hk2⟩ := HAl1.out e h1 h2
                rw [← hk2]
                exact hf.out k hk1))
              obtain ⟨w', hw'⟩ := HV3.out v
              clear hf
              go_wp2
              go_roundw
              case rel => exact ⟨j+1, w', by omega, by go_num, hw'.symm, HN⟩
              case measure => simp [intOf]; omega
            have he := HEl1.out x hltx
            obtain ⟨bo, oo, rfl, hbo, hco⟩ := HI1.out.at (k := x) (by rw [HL1.out]; exact hltx)
            have ce : ∀ w : Later W3.heap.size W3, w.val.cell? ⟨bo, oo + x, none⟩ = some (.int .i64 ((E.getD x 0 : Nat) : Int)) := fun w => by rw [← ints_getD]; exact hco w x (by rw [HL1.out]; exact hltx)
            have HFn3 : Hid (exV L N A Bb (E.getD x 0) → ∀ x', x' < x + 1 → exV L N A Bb (E.getD x' 0)) := Lib.hid (fun h x' hx' => by
              by_cases c : x' = x
              · subst c; exact h
              · exact hf.out x' (by omega))
            clear hco hf
            generalize E.getD x 0 = e at *
            rw [nand_testBit, Bool.and_eq_true, Bool.not_eq_true'] at he
            obtain ⟨he8, heA, heB⟩ := he
            have HNo3 : Hid (¬ exV L N A Bb e → r = 6) := Lib.hid (fun h => HNo2.out (fun c => h (c e heA heB)))
            have hbe := bit_lt e he8
            have bce := bit_cast e
            have we := IntWalk.i64_in (bit e : Int) (by omega)
            have hA1 := nand_bit A e hA8 he8 heA
            have hA2 := bit_le_of_mem A e hA8 he8 heA
            have wA : IntKind.i64.wrap ((A : Int) - (bit e : Int)) = ((nand A (bit e) : Nat) : Int) := by rw [IntWalk.i64_in _ (by omega)]; omega
            have hA3 : nand A (bit e) < 256 := nand_lt _ _ 8 hA8
            clear hA1 hA2
            go_wp2
            go_loopw [16, 17] (fun o i wr => ∃ (ok : Bool) (q : Nat) (v : Later W3.heap.size W3), q ≤ fl ∧ i = .int .i64 q ∧ o = .bool ok ∧ wr = v.val ∧ Hid (ok = true ↔ ∃ y, y < q ∧ vGood L N A Bb e (F.getD y 0))) (fun _ i _ => fl - (intOf i).toNat)
            case atStart => exact ⟨false, 0, v, by omega, rfl, rfl, rfl, Lib.hid ⟨fun c => (by cases c), fun ⟨y, hy, _⟩ => (by omega)⟩⟩
            case round =>
              clear v
              obtain ⟨ok, q, v, hq, rfl, rfl, rfl, HX⟩ := hrel
              by_cases hltq : q < fl
              case neg =>
                have hqe : q = fl := by omega
                subst hqe
                have HEnd : Hid (ok = true ↔ exV L N A Bb e) := Lib.hid (by
                  rw [HX.out]
                  constructor
                  · rintro ⟨y, hy, hg⟩
                    have hm := HEl2.out y hy
                    rw [nand_testBit, Bool.and_eq_true, Bool.not_eq_true'] at hm
                    exact ⟨_, hm.2.1, hm.2.2, hg⟩
                  · rintro ⟨y, h1, h2, hg⟩
                    obtain ⟨k, hk1, hk2⟩ := HAl2.out y h1 h2
                    exact ⟨k, hk1, by rw [hk2]; exact hg⟩)
                clear HX
                cases ok with
                | false =>
                  have HF : Hid (r = 6) := Lib.hid (HNo3.out (fun c => by have := HEnd.out.2 c; cases this))
                  obtain ⟨w', hw'⟩ := HV3.out v
                  have HW : Hid (∃ w : Later B W, w.val = v.val) := Lib.hid (by rw [← hw']; exact HV2.out w')
                  clear hw' w'
                  go_wp2
                  go_ret
                  exact Ret.of HW.out (vint HF.out.symm)
                | true =>
                  have HN := Lib.hid (HFn3.out (HEnd.out.1 rfl))
                  go_wp2
                  go_roundw
                  case rel => exact ⟨x+1, v, by omega, by go_num, rfl, HN⟩
                  case measure => simp [intOf]; omega
              have hf := HEl2.out q hltq
              obtain ⟨bi, oi, rfl, hbi, hci⟩ := HI2.out.at (k := q) (by rw [HL2.out]; exact hltq)
              have cf : ∀ w : Later W3.heap.size W3, w.val.cell? ⟨bi, oi + q, none⟩ = some (.int .i64 ((F.getD q 0 : Nat) : Int)) := fun w => by rw [← ints_getD]; exact hci w q (by rw [HL2.out]; exact hltq)
              have HXn : Hid (∀ b : Bool, (b = true ↔ ok = true ∨ ((nand A (bit e) ||| bit (F.getD q 0)) ∈ L ∧ (nand Bb (bit (F.getD q 0)) ||| bit e) ∈ L ∧ N A + N Bb ≤ N (nand A (bit e) ||| bit (F.getD q 0)) + N (nand Bb (bit (F.getD q 0)) ||| bit e))) → (b = true ↔ ∃ y, y < q + 1 ∧ vGood L N A Bb e (F.getD y 0))) := Lib.hid (fun b hb => by
                rw [hb, HX.out]
                constructor
                · rintro (⟨y, h1, h2⟩ | h)
                  · exact ⟨y, by omega, h2⟩
                  · exact ⟨q, by omega, h⟩
                · rintro ⟨y, h1, h2⟩
                  by_cases c : y = q
                  · subst c; exact .inr h2
                  · exact .inl ⟨y, by omega, h2⟩)
              clear hci HX
              generalize F.getD q 0 = f at *
              rw [nand_testBit, Bool.and_eq_true, Bool.not_eq_true'] at hf
              obtain ⟨hf8, hfB, hfA⟩ := hf
              have hbf := bit_lt f hf8
              have bcf := bit_cast f
              have wf := IntWalk.i64_in (bit f : Int) (by omega)
              have hB1 := nand_bit Bb f hB8 hf8 hfB
              have hB2 := bit_le_of_mem Bb f hB8 hf8 hfB
              have hfA2 : (nand A (bit e)).testBit f = false := by rw [nand_testBit, hfA]; rfl
              have heB2 : (nand Bb (bit f)).testBit e = false := by rw [nand_testBit, heB]; rfl
              have hB3 : nand Bb (bit f) < 256 := nand_lt _ _ 8 hB8
              have hP1 := or_bit (nand A (bit e)) f hA3 hf8 hfA2
              have hQ1 := or_bit (nand Bb (bit f)) e hB3 he8 heB2
              have hP8 : nand A (bit e) ||| bit f < 256 := or_lt _ _ hA3 (by omega)
              have hQ8 : nand Bb (bit f) ||| bit e < 256 := or_lt _ _ hB3 (by omega)
              have wB : IntKind.i64.wrap ((Bb : Int) - (bit f : Int)) = ((nand Bb (bit f) : Nat) : Int) := by rw [IntWalk.i64_in _ (by omega)]; omega
              have wP : IntKind.i64.wrap (((nand A (bit e) : Nat) : Int) + (bit f : Int)) = ((nand A (bit e) ||| bit f : Nat) : Int) := by rw [IntWalk.i64_in _ (by omega)]; omega
              have wQ : IntKind.i64.wrap (((nand Bb (bit f) : Nat) : Int) + (bit e : Int)) = ((nand Bb (bit f) ||| bit e : Nat) : Int) := by rw [IntWalk.i64_in _ (by omega)]; omega
              have KP := Lib.hid (fun w => KA3.out w (nand A (bit e) ||| bit f))
              have KQ := Lib.hid (fun w => KA3.out w (nand Bb (bit f) ||| bit e))
              have hP := HBd.out (nand A (bit e) ||| bit f)
              have hQ := HBd.out (nand Bb (bit f) ||| bit e)
              clear hB1 hB2 hfA2 heB2 hP1 hQ1 hfB hfA
              generalize nand A (bit e) ||| bit f = P at *
              generalize nand Bb (bit f) ||| bit e = Q at *
              generalize nand Bb (bit f) = Q0 at *
              generalize hP0 : nand A (bit e) = P0 at *
              have w1 := IntWalk.i64_in (N A + N Bb) (by omega)
              have w2 := IntWalk.i64_in (N P + N Q) (by omega)
              have Hbp : Hid (decide (P ∈ L) = true ↔ P ∈ L) := Lib.hid decide_eq_true_iff
              have Hbq : Hid (decide (Q ∈ L) = true ↔ Q ∈ L) := Lib.hid decide_eq_true_iff
              generalize decide (P ∈ L) = bp at *
              generalize decide (Q ∈ L) = bq at *
              obtain ⟨r1, hr1⟩ : ∃ b : Bool, b = (ok || (bp && (bq && decide (N A + N Bb ≤ N P + N Q)))) := ⟨_, rfl⟩
              have HN := Lib.hid (HXn.out r1 (by
                rw [hr1]
                simp only [Bool.or_eq_true, Bool.and_eq_true, decide_eq_true_eq]
                rw [Hbp.out, Hbq.out]))
              clear HXn Hbp Hbq HNo3 HFn3
              go_upto_region 27 with fail
              refine wp_region_later v (by kernel_rfl) (by kernel_rfl) (fun _ => ?_)
              repeat (first | go_big_quiet_step ((exact KP.out _)) | (refine wpQuiet_step (fun K hK => ?_); go_simp; refine ⟨_, fun _ => rfl, ?_⟩; refine hK _ ?_; clear hK K))
              refine wpQuiet_nil ?_
              intro v
              go_upto_region 28 with fail
              refine wp_region_later v (by kernel_rfl) (by kernel_rfl) (fun _ => ?_)
              repeat (first | go_big_quiet_step ((exact KQ.out _)) | (refine wpQuiet_step (fun K hK => ?_); go_simp; refine ⟨_, fun _ => rfl, ?_⟩; refine hK _ ?_; clear hK K))
              refine wpQuiet_nil ?_
              intro v
              go_upto_region 29 with fail
              clear KP KQ
              cases ok <;> cases bp <;> cases bq
              all_goals
                first
                | (have hr : r1 = true := hr1; clear hr1; subst hr)
                | (have hr : r1 = false := hr1; clear hr1; subst hr)
                | (have hr : r1 = decide (N A + N Bb ≤ N P + N Q) := hr1; clear hr1; subst hr)
                refine wp_region_later v (by kernel_rfl) (by kernel_rfl) (fun _ => ?_)
                repeat (first | go_big_quiet_step ((fail)) | (refine wpQuiet_step (fun K hK => ?_); go_simp; refine ⟨_, fun _ => rfl, ?_⟩; refine hK _ ?_; clear hK K))
                refine wpQuiet_nil ?_
                intro v
                go_wp2
                go_roundw
                case rel => exact ⟨_, q+1, v, by omega, by go_num, rfl, rfl, HN⟩
                case measure => simp [intOf]; omega

end Go.Proofs.Ytmhjhdgaecdloaa
