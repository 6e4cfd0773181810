
/-
  The kinds of sets that axioms.family is asked for: Independents, Circuits, Flats, Hyperplanes.
-/
import Derived.Test.YtjpcelldbhdneaaAxFam
namespace Go.Proofs.Ytjpcelldbhdneaa
open Go.RowKit
set_option linter.unusedVariables false

set_option maxRecDepth 100000 in
set_option maxHeartbeats 4000000 in
theorem c_indTell {B : Nat} {W : World} (u : Later B W) (m : Nat) (hm : m ≤ 8) (L : List Nat) (g c s : Nat) (hs : s < bit m) (hg : g < B) (hT : ITab W g (bit m) (fun j => (rk L j : Int))) :
    Calls Try.prog 130 #[.slice (some ⟨g, 0, none⟩) (bit m) c, .int .i64 s] u.val (Ret B W (.bool (indP L s))) := by
  have hb := bit_le m hm
  have c0 : ∀ w : Later B W, w.val.cell? ⟨g, s, none⟩ = some (.int .i64 (rk L s : Int)) := fun w => (hT.keep_at w.below hg).cell hs
  have KS := Lib.hid (fun w : Later B W => c_size_axioms w s (by omega))
  have HP : Hid (((rk L s : Int) == (sz s : Int)) = indP L s) := Lib.hid (by unfold indP; rw [Bool.eq_iff_iff]; simp; omega)
  clear hT
  generalize indP L s = r at *
  generalize rk L s = p at *
  generalize sz s = q at *
  go_enter Try.func130, Try.ntmps130
  go_wp2
  refine wp_region_later u (by kernel_rfl) (by kernel_rfl) (fun _ => ?_)
  repeat (first | go_big_quiet_step (((go_at_call 131; exact KS.out _))) | (refine wpQuiet_step (fun K hK => ?_); go_simp; refine ⟨_, fun _ => rfl, ?_⟩; refine hK _ ?_; clear hK K))
  refine wpQuiet_nil ?_
  intro u
  go_wp2
  go_ret
  exact Ret.mk u (vbool HP.out)

set_option maxRecDepth 100000 in
set_option maxHeartbeats 8000000 in
theorem c_circTellP {B : Nat} {W : World} (u : Later B W) (m : Nat) (hm : m ≤ 8) (L : List Nat) (g c s : Nat) (hs : s < bit m) (hg : g < B) (hT : ITab W g (bit m) (fun j => (rk L j : Int))) :
    Calls Try.prog 132 #[.slice (some ⟨g, 0, none⟩) (bit m) c, .int .i64 s] u.val (Ret B W (.bool (circP L s))) := by
  have hb := bit_le m hm
  have cc : Hid (∀ t, t < bit m → ∀ w : Later B W, w.val.cell? ⟨g, t, none⟩ = some (.int .i64 (rk L t : Int))) := Lib.hid (fun t ht w => (hT.keep_at w.below hg).cell ht)
  have KZ := Lib.hid (fun (t : Nat) (ht : t < 256) (w : Later B W) => c_size_axioms w t ht)
  have HC : Hid (circP L s = true ↔ (rk L s + 1 = sz s ∧ ∀ i, i < 8 → s.testBit i = true → rk L (nand s (bit i)) = sz (nand s (bit i)))) := Lib.hid circP_iff
  have HR8 : Hid (∀ t, rk L t ≤ 8) := Lib.hid (rk_le8 L)
  have c0 := cc.out s hs
  have KS := Lib.hid (KZ.out s (by omega))
  have z8 := sz_le s
  have r8 := HR8.out s
  clear hT
  generalize circP L s = r at *
  by_cases h1 : rk L s + 1 = sz s
  case neg =>
    have hr : r = false := by
      cases c : r
      · rfl
      · exact absurd (HC.out.1 c).1 h1
    subst hr
    have d1 : ((rk L s : Int) != (sz s : Int) - 1) = true := by rw [bne_iff_ne]; omega
    clear HC h1 cc KZ HR8
    generalize rk L s = p at *
    generalize sz s = q at *
    go_enter Try.func132, Try.ntmps132
    go_wp2
    refine wp_region_later u (by kernel_rfl) (by kernel_rfl) (fun _ => ?_)
    repeat (first | go_big_quiet_step (((go_at_call 131; exact KS.out _))) | (refine wpQuiet_step (fun K hK => ?_); go_simp; refine ⟨_, fun _ => rfl, ?_⟩; refine hK _ ?_; clear hK K))
    refine wpQuiet_nil ?_
    intro u
    go_wp2
    go_ret
    exact Ret.mk u rfl
  have HC2 : Hid (r = true ↔ ∀ i, i < 8 → s.testBit i = true → rk L (nand s (bit i)) = sz (nand s (bit i))) := Lib.hid (by
    rw [HC.out]
    exact ⟨fun h => h.2, fun h => ⟨h1, h⟩⟩)
  have d1 : ((rk L s : Int) != (sz s : Int) - 1) = false := by rw [bne_eq_false_iff_eq]; omega
  clear HC h1
  have hs8 : s < 256 := by omega
  go_enter Try.func132, Try.ntmps132
  go_wp2
  refine wp_region_later u (by kernel_rfl) (by kernel_rfl) (fun _ => ?_)
  repeat (first | go_big_quiet_step (((go_at_call 131; exact KS.out _))) | (refine wpQuiet_step (fun K hK => ?_); go_simp; refine ⟨_, fun _ => rfl, ?_⟩; refine hK _ ?_; clear hK K))
  refine wpQuiet_nil ?_
  intro u
  go_wp2
  clear KS d1 c0 z8 r8
  go_loopw [5] (fun r' wr => ∃ (t : Nat) (v : Later B W), t < 256 ∧ r' = .int .i64 t ∧ wr = v.val ∧ Hid (sub t s) ∧ Hid (∀ i, i < 8 → s.testBit i = true → t.testBit i = false → rk L (nand s (bit i)) = sz (nand s (bit i)))) (fun r' _ => (intOf r').toNat)
  case atStart => exact ⟨s, u, hs8, rfl, rfl, Lib.hid (fun _ h => h), Lib.hid (fun i hi h1 h2 => by rw [h1] at h2; cases h2)⟩
  case round =>
    clear u
    obtain ⟨t, v, ht, rfl, rfl, HS, HN⟩ := hrel
    by_cases h0 : t = 0
    · subst h0
      have d0 : ((((0 : Nat) : Int)) != 0) = false := rfl
      have hr : r = true := HC2.out.2 (fun i hi h => HN.out i hi h (by simp))
      subst hr
      go_wp2
      go_ret
      exact Ret.mk v rfl
    · obtain ⟨d, hd8, hlow, htd, hdb, _, hdl⟩ := low_facts t ht h0
      have d0 : ((t : Int) != 0) = true := by rw [bne_iff_ne]; omega
      have l1 := i64_low t ht
      rw [hlow] at l1
      have l2 := i64_drop1 t ht (by omega)
      have HD := Lib.hid (drop1_lt t ht)
      have HDl := Lib.hid hdl
      have hbd := bit_lt d hd8
      have hbds := HS.out d htd
      have o1 := i64_andNot s (bit d) (by omega) (by omega)
      have hnb : nand s (bit d) < bit m := nand_lt _ _ m hs
      have c0 := cc.out _ hnb
      have KS := Lib.hid (KZ.out (nand s (bit d)) (by omega))
      have r8 := HR8.out (nand s (bit d))
      have z8 := sz_le (nand s (bit d))
      have HSn : Hid (sub (drop1 t) s) := Lib.hid (fun x hx => by
        have h8 := lt_of_testBit HD.out hx
        have := hdb x h8
        rw [this] at hx
        simp at hx
        exact HS.out x hx.1)
      have HX : Hid (rk L (nand s (bit d)) ≠ sz (nand s (bit d)) → r = false) := Lib.hid (fun h => by
        cases c : r
        · rfl
        · exact absurd (HC2.out.1 c d hd8 hbds) h)
      have HY : Hid (rk L (nand s (bit d)) = sz (nand s (bit d)) → ∀ i, i < 8 → s.testBit i = true → (drop1 t).testBit i = false → rk L (nand s (bit i)) = sz (nand s (bit i))) := Lib.hid (fun h i hi h1 h2 => by
        by_cases e : i = d
        · subst e; exact h
        · refine HN.out i hi h1 ?_
          rw [hdb i hi] at h2
          simpa [e] using h2)
      clear h0 hlow htd hdb hdl hbds HS HN
      by_cases hq : rk L (nand s (bit d)) = sz (nand s (bit d))
      · have d2 : ((rk L (nand s (bit d)) : Int) != (sz (nand s (bit d)) : Int)) = false := by rw [bne_eq_false_iff_eq]; omega
        have HN2 := Lib.hid (HY.out hq)
        clear hq HX HY
        generalize rk L (nand s (bit d)) = p at *
        generalize sz (nand s (bit d)) = q at *
        generalize nand s (bit d) = y at *
        go_wp2
        refine wp_region_later v (by kernel_rfl) (by kernel_rfl) (fun _ => ?_)
        repeat (first | go_big_quiet_step (((go_at_call 131; exact KS.out _))) | (refine wpQuiet_step (fun K hK => ?_); go_simp; refine ⟨_, fun _ => rfl, ?_⟩; refine hK _ ?_; clear hK K))
        refine wpQuiet_nil ?_
        intro v
        go_wp2
        go_roundw
        case rel => exact ⟨drop1 t, v, HD.out, rfl, rfl, HSn, HN2⟩
        case measure => have := HDl.out; simp [intOf]; omega
      · have d2 : ((rk L (nand s (bit d)) : Int) != (sz (nand s (bit d)) : Int)) = true := by rw [bne_iff_ne]; omega
        have hr := HX.out hq
        subst hr
        clear hq HX HY
        generalize rk L (nand s (bit d)) = p at *
        generalize sz (nand s (bit d)) = q at *
        generalize nand s (bit d) = y at *
        go_wp2
        refine wp_region_later v (by kernel_rfl) (by kernel_rfl) (fun _ => ?_)
        repeat (first | go_big_quiet_step (((go_at_call 131; exact KS.out _))) | (refine wpQuiet_step (fun K hK => ?_); go_simp; refine ⟨_, fun _ => rfl, ?_⟩; refine hK _ ?_; clear hK K))
        refine wpQuiet_nil ?_
        intro v
        go_wp2
        go_ret
        exact Ret.mk v rfl

set_option maxRecDepth 100000 in
set_option maxHeartbeats 8000000 in
theorem c_axFlat {B : Nat} {W : World} (u : Later B W) (m : Nat) (hm : m ≤ 8) (L : List Nat) (g c s : Nat) (hs : s < bit m) (hg : g < B) (hT : ITab W g (bit m) (fun j => (rk L j : Int))) :
    Calls Try.prog 135 #[.slice (some ⟨g, 0, none⟩) (bit m) c, .int .i64 m, .int .i64 s] u.val (Ret B W (.bool (flatP m L s))) := by
  have hb := bit_le m hm
  have cc : Hid (∀ t, t < bit m → ∀ w : Later B W, w.val.cell? ⟨g, t, none⟩ = some (.int .i64 (rk L t : Int))) := Lib.hid (fun t ht w => (hT.keep_at w.below hg).cell ht)
  have HC : Hid (flatP m L s = true ↔ ∀ i, i < m → s.testBit i = false → rk L (s ||| bit i) ≠ rk L s) := Lib.hid flatP_iff
  have c0 := cc.out s hs
  have hs8 : s < 256 := by omega
  clear hT
  generalize flatP m L s = r at *
  go_enter Try.func135, Try.ntmps135
  go_wp2
  go_loopw [9] (fun i wr => ∃ (k : Nat) (v : Later B W), k ≤ m ∧ i = .int .i64 k ∧ wr = v.val ∧ Hid (∀ i, i < k → s.testBit i = false → rk L (s ||| bit i) ≠ rk L s)) (fun i _ => m - (intOf i).toNat)
  case atStart => exact ⟨0, u, by omega, rfl, rfl, Lib.hid (fun i hi => by omega)⟩
  case round =>
    clear u
    obtain ⟨k, v, hk, rfl, rfl, HN⟩ := hrel
    by_cases hlt : k < m
    · have hbk := bit_lt k (by omega)
      have bc := bit_cast k
      have ib := i64_bit s k hs8 (by omega)
      have w1 := IntWalk.i64_in (bit k : Int) (by omega)
      have o1 := i64_or s (bit k) (by omega) (by omega)
      have hor : s ||| bit k < bit m := or_lt_bit hs (bit_lt_bit hlt)
      have c1 := cc.out _ hor
      rcases btf (s.testBit k) with g1 | g1
      · rw [g1] at ib
        have HN2 : Hid (∀ i, i < k + 1 → s.testBit i = false → rk L (s ||| bit i) ≠ rk L s) := Lib.hid (fun i hi h => by
          by_cases e : i = k
          · subst e; rw [g1] at h; cases h
          · exact HN.out i (by omega) h)
        clear g1 HN
        generalize s ||| bit k = y at *
        go_wp2
        refine wp_region_later v (by kernel_rfl) (by kernel_rfl) (fun _ => ?_)
        repeat (first | go_big_quiet_step ((fail)) | (refine wpQuiet_step (fun K hK => ?_); go_simp; refine ⟨_, fun _ => rfl, ?_⟩; refine hK _ ?_; clear hK K))
        refine wpQuiet_nil ?_
        intro v
        go_wp2
        go_roundw
        case rel => exact ⟨k+1, v, by omega, by go_num, rfl, HN2⟩
        case measure => simp [intOf]; omega
      · rw [g1] at ib
        by_cases hq : rk L (s ||| bit k) = rk L s
        · have hr : r = false := by
            cases c : r
            · rfl
            · exact absurd hq (HC.out.1 c k hlt g1)
          subst hr
          have d2 : ((rk L (s ||| bit k) : Int) == (rk L s : Int)) = true := by rw [beq_iff_eq]; omega
          clear g1 HN hq HC
          generalize rk L (s ||| bit k) = p at *
          generalize rk L s = q at *
          generalize s ||| bit k = y at *
          go_wp2
          refine wp_region_later v (by kernel_rfl) (by kernel_rfl) (fun _ => ?_)
          repeat (first | go_big_quiet_step ((fail)) | (refine wpQuiet_step (fun K hK => ?_); go_simp; refine ⟨_, fun _ => rfl, ?_⟩; refine hK _ ?_; clear hK K))
          refine wpQuiet_nil ?_
          intro v
          go_wp2
          go_ret
          exact Ret.mk v rfl
        · have d2 : ((rk L (s ||| bit k) : Int) == (rk L s : Int)) = false := by rw [beq_eq_false_iff_ne]; omega
          have HN2 : Hid (∀ i, i < k + 1 → s.testBit i = false → rk L (s ||| bit i) ≠ rk L s) := Lib.hid (fun i hi h => by
            by_cases e : i = k
            · subst e; exact hq
            · exact HN.out i (by omega) h)
          clear g1 HN hq
          generalize rk L (s ||| bit k) = p at *
          generalize hqq : rk L s = q at *
          generalize s ||| bit k = y at *
          go_wp2
          refine wp_region_later v (by kernel_rfl) (by kernel_rfl) (fun _ => ?_)
          repeat (first | go_big_quiet_step ((fail)) | (refine wpQuiet_step (fun K hK => ?_); go_simp; refine ⟨_, fun _ => rfl, ?_⟩; refine hK _ ?_; clear hK K))
          refine wpQuiet_nil ?_
          intro v
          go_wp2
          go_roundw
          case rel => exact ⟨k+1, v, by omega, by go_num, rfl, HN2⟩
          case measure => simp [intOf]; omega
    · have hr : r = true := HC.out.2 (fun i hi h => HN.out i (by omega) h)
      subst hr
      go_wp2
      go_ret
      exact Ret.mk v rfl

set_option maxRecDepth 100000 in
set_option maxHeartbeats 4000000 in
theorem c_flatTellP {B : Nat} {W : World} (u : Later B W) (m : Nat) (hm : m ≤ 8) (L : List Nat) (g c s q : Nat) (hs : s < bit m) (hg : g < B) (hT : ITab W g (bit m) (fun j => (rk L j : Int))) (hq : q < B) (hbox : W.cell? ⟨q, 0, none⟩ = some (.int .i64 m)) :
    Calls Try.prog 134 #[.slice (some ⟨g, 0, none⟩) (bit m) c, .int .i64 s, .pointer (some ⟨q, 0, none⟩)] u.val (Ret B W (.bool (flatP m L s))) := by
  have c0 : ∀ w : Later B W, w.val.cell? ⟨q, 0, none⟩ = some (.int .i64 m) := fun w => by rw [w.cell hq, hbox]
  have K := Lib.hid (fun w : Later B W => c_axFlat w m hm L g c s hs hg hT)
  clear hT hbox
  generalize flatP m L s = r at *
  go_enter Try.func134, Try.ntmps134
  go_wp2_with (first | (go_at_call 135; (with_reducible refine (K.out _).mono ?_); rintro e _ ⟨rfl, v1, rfl⟩))
  go_ret
  exact Ret.mk v1 rfl

set_option maxRecDepth 100000 in
set_option maxHeartbeats 4000000 in
theorem c_hypTellP {B : Nat} {W : World} (u : Later B W) (m : Nat) (hm : m ≤ 8) (L : List Nat) (g c s q : Nat) (hs : s < bit m) (hg : g < B) (hT : ITab W g (bit m) (fun j => (rk L j : Int))) (hq : q < B) (hbox : W.cell? ⟨q, 0, none⟩ = some (.int .i64 m)) :
    Calls Try.prog 136 #[.slice (some ⟨g, 0, none⟩) (bit m) c, .int .i64 s, .pointer (some ⟨q, 0, none⟩)] u.val (Ret B W (.bool (hypP m L s))) := by
  have hb := bit_le m hm
  have c0 : ∀ w : Later B W, w.val.cell? ⟨q, 0, none⟩ = some (.int .i64 m) := fun w => by rw [w.cell hq, hbox]
  have c1 : ∀ w : Later B W, w.val.cell? ⟨g, s, none⟩ = some (.int .i64 (rk L s : Int)) := fun w => (hT.keep_at w.below hg).cell hs
  have c2 : ∀ w : Later B W, w.val.cell? ⟨g, bit m - 1, none⟩ = some (.int .i64 (rk L (bit m - 1) : Int)) := fun w => (hT.keep_at w.below hg).cell (by omega)
  have K := Lib.hid (fun w : Later B W => c_axFlat w m hm L g c s hs hg hT)
  have HP : Hid (hypP m L s = (decide (rk L s + 1 = rk L (bit m - 1)) && flatP m L s)) := Lib.hid rfl
  have r8 := rk_le8 L s
  have r8' := rk_le8 L (bit m - 1)
  clear hT hbox
  generalize hypP m L s = r at *
  generalize flatP m L s = f at *
  by_cases h1 : rk L s + 1 = rk L (bit m - 1)
  · have d1 : ((rk L s : Int) == (rk L (bit m - 1) : Int) - 1) = true := by rw [beq_iff_eq]; omega
    have HP2 : Hid (f = r) := Lib.hid (by rw [HP.out, decide_eq_true h1]; rfl)
    clear HP h1
    generalize rk L s = p at *
    generalize rk L (bit m - 1) = p2 at *
    go_enter Try.func136, Try.ntmps136
    go_wp2
    refine wp_region_later u (by kernel_rfl) (by kernel_rfl) (fun _ => ?_)
    repeat (first | go_big_quiet_step (((go_at_call 135; exact K.out _))) | (refine wpQuiet_step (fun K hK => ?_); go_simp; refine ⟨_, fun _ => rfl, ?_⟩; refine hK _ ?_; clear hK K))
    refine wpQuiet_nil ?_
    intro u
    go_wp2
    go_ret
    exact Ret.mk u (vbool HP2.out)
  · have d1 : ((rk L s : Int) == (rk L (bit m - 1) : Int) - 1) = false := by rw [beq_eq_false_iff_ne]; omega
    have HP2 : Hid (false = r) := Lib.hid (by rw [HP.out, decide_eq_false h1]; rfl)
    clear HP h1
    generalize rk L s = p at *
    generalize rk L (bit m - 1) = p2 at *
    go_enter Try.func136, Try.ntmps136
    go_wp2
    refine wp_region_later u (by kernel_rfl) (by kernel_rfl) (fun _ => ?_)
    repeat (first | go_big_quiet_step (((go_at_call 135; exact K.out _))) | (refine wpQuiet_step (fun K hK => ?_); go_simp; refine ⟨_, fun _ => rfl, ?_⟩; refine hK _ ?_; clear hK K))
    refine wpQuiet_nil ?_
    intro u
    go_wp2
    go_ret
    exact Ret.mk u (vbool HP2.out)

end Go.Proofs.Ytjpcelldbhdneaa
