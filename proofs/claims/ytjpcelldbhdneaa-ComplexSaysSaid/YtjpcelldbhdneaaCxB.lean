
/-
  complex.count: how many faces of each size.
-/
import Derived.Test.YtjpcelldbhdneaaCxA
namespace Go.Proofs.Ytjpcelldbhdneaa
open Go.RowKit
set_option linter.unusedVariables false

set_option maxHeartbeats 400000 in
theorem c_size_cx {B : Nat} {W : World} (u : Later B W) (s : Nat) (hs : s < 256) :
    Calls Try.prog 246 #[.int .i64 s] u.val (Ret B W (.int .i64 (sz s))) := by
  have H := Lib.hid (c_ones u s hs)
  go_enter Try.func246, Try.ntmps246
  go_wp2_with (first | (go_at_call 196; refine H.out.mono ?_; rintro e _ ⟨rfl, v1, rfl⟩))
  go_ret
  exact Ret.mk _ rfl

theorem mk_tab1 (n : Nat) (h : n ≤ 1048575) (w : World) : (Instr.makeSlice 22 (.int .i64 ((n : Int) + 1)) (.int .i64 ((n : Int) + 1))).run Try.prog w = .ok (.slice (some ⟨w.heap.size, 0, none⟩) (n + 1) (n + 1)) (w.alloc (.cells (madeCells #[.int .i64 0] (n + 1)) 3)) := by
  have := mk_tab (n + 1) (by omega) w
  rwa [show ((n + 1 : Nat) : Int) = (n : Int) + 1 by omega] at this
set_option maxRecDepth 100000 in
set_option maxHeartbeats 8000000 in
theorem c_cxCount {B : Nat} {W : World} (u : Later B W) (m : Nat) (hm : m ≤ 8) (L : List Nat) (hL : ∀ b, b ∈ L → b < bit m) (hne : L ≠ []) (hlen : L.length ≤ 1048576) (a : Option Addr) (cap : Nat) (h : IntsAt B W a (ints L)) :
    Calls Try.prog 208 #[.int .i64 m, .slice a (ints L).length cap] u.val (RetInts B W (tabL (mostTo L L.length + 1) (tally (those m (freeB L)) (those m (freeB L)).length))) := by
  have hb := bit_le m hm
  have HI := Lib.hid h
  have H8 : Hid (∀ b, b ∈ L → b < 256) := Lib.hid (fun b hb' => by have := hL b hb'; omega)
  have HSz := szs_faces hL hne
  have HS2 : Hid (∀ i, i < (those m (freeB L)).length → sz ((those m (freeB L)).getD i 0) < mostTo L L.length + 1) := Lib.hid (fun i hi => by
    have := szs_ge (those m (freeB L)) hi
    omega)
  have HF8 : Hid (∀ i, i < (those m (freeB L)).length → (those m (freeB L)).getD i 0 < 256) := Lib.hid (fun i hi => by
    have := (mem_those.1 (getD_memC hi)).1
    omega)
  have KFc := Lib.hid (fun (B : Nat) (W : World) (v : Later B W) (h : IntsAt B W a (ints L)) => c_cxFaces0 v m hm L H8.out hlen a cap h)
  have HFl := those_len256 hm (freeB L)
  clear h hL HSz hne
  generalize those m (freeB L) = F at *
  have hil : (ints L).length = L.length := ints_len L
  have hilF : (ints F).length = F.length := ints_len F
  rw [hil] at KFc ⊢
  go_enter Try.func208, Try.ntmps208
  go_wp2
  go_loopw [5, 13] (fun o i wr => ∃ (k : Nat) (v : Later B W), k ≤ L.length ∧ o = .int .i64 (mostTo L k) ∧ i = .int .i64 k ∧ wr = v.val) (fun _ i _ => L.length - (intOf i).toNat)
  case atStart => exact ⟨0, u, by omega, rfl, rfl, rfl⟩
  case round =>
    clear u
    obtain ⟨k, v, hk, rfl, rfl, rfl⟩ := hrel
    by_cases hlt : k < L.length
    · obtain ⟨b, off, rfl, hbB, hcell⟩ := HI.out.at (k := k) (by rw [ints_len]; exact hlt)
      have c0 : v.val.cell? ⟨b, off + k, none⟩ = some (.int .i64 ((L.getD k 0 : Nat) : Int)) := by rw [← ints_getD]; exact hcell v k (by rw [ints_len]; exact hlt)
      have h8 : L.getD k 0 < 256 := H8.out _ (getD_memC hlt)
      have KS := Lib.hid (c_size_cx v (L.getD k 0) h8)
      have HX : Hid (mostTo L (k + 1) = max (mostTo L k) (sz (L.getD k 0))) := Lib.hid rfl
      clear hcell HS2 HF8 KFc
      generalize L.getD k 0 = s at *
      generalize mostTo L k = p at *
      generalize sz s = z at *
      rcases ilt (p : Int) (z : Int) with ⟨g1, d1⟩ | ⟨g1, d1⟩ <;> rcases ilt (z : Int) (p : Int) with ⟨g2, d2⟩ | ⟨g2, d2⟩
      all_goals first | (exfalso; omega) | skip
      all_goals
        go_wp2_with (first | (go_at_call 246; (with_reducible refine (KS.out).mono ?_); rintro e _ ⟨rfl, v1, rfl⟩))
        go_roundw
        case rel =>
          first
          | exact ⟨k+1, v1, by omega, vint (by rw [HX.out]; omega), by go_num, rfl⟩
        case measure => simp [intOf]; omega
    · have hke : k = L.length := by omega
      subst hke
      have hd8 := mostTo_le L L.length
      generalize mostTo L L.length = d at *
      have hmk := mk_tab1 d (by omega)
      go_upto_region 8 with fail
      have HT0 : Hid (ITab (v.val.alloc (.cells (madeCells #[Value.int .i64 0] (d + 1)) 3)) v.val.heap.size (d + 1) (tally F 0)) := Lib.hid ((ITab.made v.val (d + 1)).congr (fun j _ => (tally_zero F j).symm))
      have KF : Hid (Calls Try.prog 207 #[.int .i64 m, .slice a L.length cap] (v.val.alloc (.cells (madeCells #[Value.int .i64 0] (d + 1)) 3)) (RetOwn (v.val.alloc (.cells (madeCells #[Value.int .i64 0] (d + 1)) 3)).heap.size (v.val.alloc (.cells (madeCells #[Value.int .i64 0] (d + 1)) 3)) (ints F))) := Lib.hid (KFc.out _ _ (Later.self (v.val.alloc (.cells (madeCells #[Value.int .i64 0] (d + 1)) 3))) (HI.out.to (v.alloc _)))
      have HV : Hid (∀ y : Later v.val.heap.size v.val, ∃ w : Later B W, w.val = y.val) := Lib.hid (fun y => ⟨v.up y, rfl⟩)
      have hgz : v.val.heap.size < (v.val.alloc (.cells (madeCells #[Value.int .i64 0] (d + 1)) 3)).heap.size := by simp
      have HU : Hid (∀ y : Later (v.val.alloc (.cells (madeCells #[Value.int .i64 0] (d + 1)) 3)).heap.size (v.val.alloc (.cells (madeCells #[Value.int .i64 0] (d + 1)) 3)), ∃ w : Later v.val.heap.size v.val, w.val = y.val) := Lib.hid (fun y => ⟨((Later.self v.val).alloc _).up y, rfl⟩)
      clear KFc HI H8 hmk
      generalize v.val.heap.size = g at *
      generalize (v.val.alloc (.cells (madeCells #[Value.int .i64 0] (d + 1)) 3)) = Z at *
      generalize v.val = V at *
      clear v hk hlt
      go_upto_region 9 with (first | (go_at_call 207; (with_reducible refine (KF.out).mono ?_); rintro e _ ⟨_, rfl, ⟨adF, cpF, rfl, hO⟩, v1, rfl⟩))
      try rw [hilF]
      have HO0 : Hid (Own Z.heap.size v1.val adF cpF (ints F)) := Lib.hid hO
      have HT1 : Hid (ITab v1.val g (d + 1) (tally F 0)) := Lib.hid (HT0.out.keep v1.below)
      obtain ⟨y, hy⟩ := HU.out v1
      rw [← hy] at HO0 HT1 ⊢
      clear hy HU KF HT0 hO v1
      have hgg : Hid (g < Z.heap.size) := Lib.hid hgz
      clear hgz
      generalize Z.heap.size = q at *
      clear Z
      go_wp2
      go_loopw [29] (fun i wr => ∃ (k : Nat) (v : Later g V), k ≤ F.length ∧ i = .int .i64 k ∧ wr = v.val ∧ Hid (ITab v.val g (d + 1) (tally F k)) ∧ Hid (Own q v.val adF cpF (ints F))) (fun i _ => F.length - (intOf i).toNat)
      case atStart => exact ⟨0, y, by omega, rfl, rfl, HT1, HO0⟩
      case round =>
        clear y HT1 HO0
        obtain ⟨k, v, hk, rfl, rfl, HT, HO⟩ := hrel
        by_cases hlt : k < F.length
        · obtain ⟨b, off, rfl, hbB, hcell⟩ := HO.out.reads.at (k := k) (by rw [ints_len]; exact hlt)
          have c0 : v.val.cell? ⟨b, off + k, none⟩ = some (.int .i64 ((F.getD k 0 : Nat) : Int)) := by rw [← ints_getD]; exact hcell (Later.self _) k (by rw [ints_len]; exact hlt)
          have h8 := HF8.out k hlt
          have hz := HS2.out k hlt
          have KS := Lib.hid (c_size_cx (Later.self v.val) (F.getD k 0) h8)
          dsimp only [Later.self] at KS
          have HTw : Hid (∀ w : Later v.val.heap.size v.val, ITab w.val g (d + 1) (tally F k)) := Lib.hid (fun w => HT.out.keep w.below)
          have HOw : Hid (∀ w : Later v.val.heap.size v.val, Own q w.val (some ⟨b, off, none⟩) cpF (ints F)) := Lib.hid (fun w => HO.out.keep w.below)
          have HNx : Hid (∀ w : World, ITab w g (d + 1) (tally F k) → ITab (w.setCell ⟨g, sz (F.getD k 0), none⟩ (.int .i64 (tally F k (sz (F.getD k 0)) + 1))) g (d + 1) (tally F (k + 1))) := Lib.hid (fun w h => h.set _ _ (fun j _ => by
            rw [tally_step F hlt j]
            by_cases c : j = sz (F.getD k 0)
            · rw [if_pos c, if_pos c, c]
            · rw [if_neg c, if_neg c]))
          have c1 : ∀ w : Later v.val.heap.size v.val, w.val.cell? ⟨g, sz (F.getD k 0), none⟩ = some (.int .i64 (tally F k (sz (F.getD k 0)))) := fun w => (HTw.out w).cell hz
          have c2 : ∀ w : Later v.val.heap.size v.val, w.val.frozen? ⟨g, sz (F.getD k 0), none⟩ = false := fun w => (HTw.out w).frozen _
          have hp := tally_le F k (sz (F.getD k 0))
          clear hcell HT HO
          generalize tally F k (sz (F.getD k 0)) = p at *
          generalize F.getD k 0 = s at *
          generalize sz s = z at *
          go_wp2_with (first | (go_at_call 246; (with_reducible refine (KS.out).mono ?_); rintro e _ ⟨rfl, v1, rfl⟩))
          go_roundw
          case rel => exact ⟨k+1, (v.up v1).set ⟨g, z, none⟩ (Nat.le_refl _) _, by omega, by go_num, rfl, Lib.hid (HNx.out _ (HTw.out v1)), Lib.hid ((HOw.out v1).set hgg.out _)⟩
          case measure => simp [intOf]; omega
        · have hke : k = F.length := by omega
          subst hke
          go_wp2
          go_ret
          exact RetP.of (HV.out v) HT.out.reads

end Go.Proofs.Ytjpcelldbhdneaa
