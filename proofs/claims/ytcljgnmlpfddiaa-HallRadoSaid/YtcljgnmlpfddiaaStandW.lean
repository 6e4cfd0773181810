/-
  rotaref.Stand: its two function values.
-/
import Derived.Deep.CutRange
import Derived.Deep.CutBlock
import Derived.Deep.RegionHeld3
import Derived.Test.YtcljgnmlpfddiaaRado
import Derived.Test.YtcljgnmlpfddiaaHallLow
import Derived.Test.YtcljgnmlpfddiaaTabs
import Derived.Test.YtcljgnmlpfddiaaBox1
namespace Go.Proofs.Ytcljgnmlpfddiaa
open Go.RowKit
set_option linter.unusedVariables false

set_option maxRecDepth 100000 in
set_option maxHeartbeats 4000000 in
theorem c_goodTell {B : Nat} {W : World} (u : Later B W) (m s br g c : Nat) (L : List Nat) (d : Bool) (hm : m ≤ 8) (hs : s < bit m) (hbr : br < B) (hg : g < B) (hc : W.cell? ⟨br, 0, none⟩ = some (.slice (some ⟨g, 0, none⟩) (bit m) c)) (hT : ITab W g (bit m) (fun j => (rk L j : Int))) (hd : d = decide (rk L s = sz s)) :
    Calls Try.prog 87 #[.int .i64 s, .pointer (some ⟨br, 0, none⟩)] u.val (Ret B W (.bool d)) := by
  have hb := bit_le m hm
  have q0 : ∀ v : Later B W, v.val.cell? ⟨br, 0, none⟩ = some (.slice (some ⟨g, 0, none⟩) (bit m) c) := fun v => by rw [v.cell hbr]; exact hc
  have q1 : ∀ v : Later B W, v.val.cell? ⟨g, s, none⟩ = some (.int .i64 (rk L s : Int)) := fun v => by rw [v.cell hg]; exact hT.cell hs
  have KS := Lib.hid (fun v : Later B W => c_size v s (by omega))
  have hr8 : rk L s ≤ 8 := by have := rk_le_sz L s; have := sz_le s; omega
  have hz8 := sz_le s
  clear hc hT
  generalize rk L s = p at *
  generalize sz s = z at *
  by_cases h : p = z
  · have d1 : ((p : Int) == (z : Int)) = true := by rw [beq_iff_eq]; omega
    have hdt : d = true := by rw [hd]; simp [h]
    subst hdt
    clear h hd
    go_enter Try.func87, Try.ntmps87
    go_wp2
    refine wp_region_later u (by kernel_rfl) (by kernel_rfl) (fun _ => ?_)
    repeat (first | go_big_quiet_step (((go_at_call 66; exact KS.out _))) | (refine wpQuiet_step (fun K hK => ?_); go_simp; refine ⟨_, fun _ => rfl, ?_⟩; refine hK _ ?_; clear hK K))
    refine wpQuiet_nil ?_
    intro u
    go_wp2
    go_ret
    exact Ret.mk u rfl
  · have d1 : ((p : Int) == (z : Int)) = false := by rw [beq_eq_false_iff_ne]; omega
    have hdt : d = false := by rw [hd]; simp [h]
    subst hdt
    clear h hd
    go_enter Try.func87, Try.ntmps87
    go_wp2
    refine wp_region_later u (by kernel_rfl) (by kernel_rfl) (fun _ => ?_)
    repeat (first | go_big_quiet_step (((go_at_call 66; exact KS.out _))) | (refine wpQuiet_step (fun K hK => ?_); go_simp; refine ⟨_, fun _ => rfl, ?_⟩; refine hK _ ?_; clear hK K))
    refine wpQuiet_nil ?_
    intro u
    go_wp2
    go_ret
    exact Ret.mk u rfl

/-- a row that is nil, or one that is not -/
def OptRow (r : Option (List Nat)) (v : Value) (w : World) : Prop := (r = none ∧ v = .slice none 0 0) ∨ (∃ l b off cp, r = some l ∧ v = .slice (some ⟨b, off, none⟩) (ints l).length cp ∧ IntsAt w.heap.size w (some ⟨b, off, none⟩) (ints l))
set_option maxRecDepth 100000 in
set_option maxHeartbeats 8000000 in
theorem c_standFrom (B : Nat) (W : World) (m : Nat) (hm : m ≤ 8) (ls : List Nat) (h8 : ls.length ≤ 8) (hls : ∀ k, k < ls.length → ls.getD k 0 < bit m) (L : List Nat) (al : Option Addr) (capl bl bn bg bf br : Nat) (hlt : bl < B ∧ bn < B ∧ bg < B ∧ bf < B)
    (hI : IntsAt B W al (ints ls)) (cl : W.cell? ⟨bl, 0, none⟩ = some (.slice al (ints ls).length capl)) (cn : W.cell? ⟨bn, 0, none⟩ = some (.int .i64 m)) (cg : W.cell? ⟨bg, 0, none⟩ = some (.func (.func 87) #[] #[.pointer (some ⟨br, 0, none⟩)]))
    (cf : W.cell? ⟨bf, 0, none⟩ = some (.func (.func 141) #[] #[.pointer (some ⟨bl, 0, none⟩), .pointer (some ⟨bn, 0, none⟩), .pointer (some ⟨bg, 0, none⟩), .pointer (some ⟨bf, 0, none⟩)]))
    (KG : ∀ (v : Later B W) (s : Nat) (d : Bool), s < bit m → d = decide (rk L s = sz s) → Calls Try.prog 87 #[.int .i64 s, .pointer (some ⟨br, 0, none⟩)] v.val (Ret B W (.bool d))) :
    ∀ rem k used, ls.length - k = rem → k ≤ ls.length → used < bit m → ∀ u : Later B W,
    Calls Try.prog 141 #[.int .i64 k, .int .i64 used, .pointer (some ⟨bl, 0, none⟩), .pointer (some ⟨bn, 0, none⟩), .pointer (some ⟨bg, 0, none⟩), .pointer (some ⟨bf, 0, none⟩)] u.val (RetP B W (OptRow (rado m (gRef L) (ls.drop k) used))) := by
  have hb := bit_le m hm
  have ql : ∀ v : Later B W, v.val.cell? ⟨bl, 0, none⟩ = some (.slice al ls.length capl) := fun v => by rw [v.cell hlt.1, cl, ints_len]
  have qn : ∀ v : Later B W, v.val.cell? ⟨bn, 0, none⟩ = some (.int .i64 m) := fun v => by rw [v.cell hlt.2.1]; exact cn
  have qg : ∀ v : Later B W, v.val.cell? ⟨bg, 0, none⟩ = some (.func (.func 87) #[] #[.pointer (some ⟨br, 0, none⟩)]) := fun v => by rw [v.cell hlt.2.2.1]; exact cg
  have qf : ∀ v : Later B W, v.val.cell? ⟨bf, 0, none⟩ = some (.func (.func 141) #[] #[.pointer (some ⟨bl, 0, none⟩), .pointer (some ⟨bn, 0, none⟩), .pointer (some ⟨bg, 0, none⟩), .pointer (some ⟨bf, 0, none⟩)]) := fun v => by rw [v.cell hlt.2.2.2]; exact cf
  have hp1 : ∀ (args : Array Value) (w : World), (callFunc 141 args).run Try.prog w = .ok (.enter 141 args) w := fun _ _ => by kernel_rfl
  have hp2 : ∀ (args : Array Value) (w : World), (callFunc 87 args).run Try.prog w = .ok (.enter 87 args) w := fun _ _ => by kernel_rfl
  have HI := Lib.hid hI
  have HKG := Lib.hid KG
  have HLs := Lib.hid hls
  clear hI cl cn cg cf KG hls hlt
  intro rem
  induction rem using Nat.strongRecOn with
  | ind rem ih =>
  intro k used hrem hk hu u
  have IH := Lib.hid ih
  clear ih
  by_cases hke : k = ls.length
  · have d0 : ((k : Int) == (ls.length : Int)) = true := by rw [beq_iff_eq]; omega
    have hR : rado m (gRef L) (ls.drop k) used = some [] := by rw [hke, List.drop_length]; rfl
    rw [hR]
    clear hR IH hrem
    go_enter Try.func141, Try.ntmps141
    go_wp2
    go_ret
    exact RetP.mk (u.alloc (.cells #[] 3)) (.inr ⟨[], u.val.heap.size, 0, 0, rfl, rfl, IntsAt.nil⟩)
  have hkl : k < ls.length := by omega
  have d0 : ((k : Int) == (ls.length : Int)) = false := by rw [beq_eq_false_iff_ne]; omega
  have hdrop : ls.drop k = ls.getD k 0 :: ls.drop (k+1) := by
    rw [List.drop_eq_getElem_cons hkl]
    congr 1
    simp [hkl]
  have HSt : Hid (∀ i l, i < m → radoStep m (gRef L) (ls.getD k 0) (ls.drop (k+1)) used i = some l → (∀ j, j < i → radoStep m (gRef L) (ls.getD k 0) (ls.drop (k+1)) used j = none) → rado m (gRef L) (ls.drop k) used = some l) := Lib.hid (fun i l hi h hno => by rw [hdrop]; exact rado_some hi h hno)
  have HNo : Hid ((∀ j, j < m → radoStep m (gRef L) (ls.getD k 0) (ls.drop (k+1)) used j = none) → rado m (gRef L) (ls.drop k) used = none) := Lib.hid (fun h => by rw [hdrop]; exact rado_none h)
  have hsk := HLs.out k hkl
  obtain ⟨bb, off, rfl, hbB, hcell⟩ := HI.out.at (k := k) (by rw [ints_len]; exact hkl)
  have c0 : ∀ v : Later B W, v.val.cell? ⟨bb, off + k, none⟩ = some (.int .i64 ((ls.getD k 0 : Nat) : Int)) := fun v => by rw [← ints_getD]; exact hcell v k (by rw [ints_len]; exact hkl)
  have HIH : Hid (∀ (v : Later B W) (i : Nat), i < m → Calls Try.prog 141 #[.int .i64 ((k + 1 : Nat) : Int), .int .i64 ((used ||| bit i : Nat) : Int), .pointer (some ⟨bl, 0, none⟩), .pointer (some ⟨bn, 0, none⟩), .pointer (some ⟨bg, 0, none⟩), .pointer (some ⟨bf, 0, none⟩)] v.val (RetP B W (OptRow (rado m (gRef L) (ls.drop (k+1)) (used ||| bit i))))) := Lib.hid (fun v i hi => IH.out (ls.length - (k+1)) (by omega) (k+1) (used ||| bit i) rfl (by omega) (or_lt_bit hu (bit_lt_bit hi)) v)
  have HDef : Hid (∀ i, radoStep m (gRef L) (ls.getD k 0) (ls.drop (k+1)) used i = if (ls.getD k 0).testBit i && gRef L used i then (rado m (gRef L) (ls.drop (k+1)) (used ||| bit i)).map (fun l => i :: l) else none) := Lib.hid (fun i => rfl)
  have HRl : Hid (∀ i l, rado m (gRef L) (ls.drop (k+1)) (used ||| bit i) = some l → l.length ≤ 8) := Lib.hid (fun i l h => by rw [rado_len _ _ _ h]; simp; omega)
  clear hdrop hcell IH
  generalize hres : rado m (gRef L) (ls.drop k) used = res at *
  clear hres
  generalize ls.getD k 0 = s at *
  generalize hstep : radoStep m (gRef L) s (ls.drop (k+1)) used = st at *
  clear hstep
  generalize hrr : (fun i => rado m (gRef L) (ls.drop (k+1)) (used ||| bit i)) = rr at *
  have HRr : Hid (∀ i, rado m (gRef L) (ls.drop (k+1)) (used ||| bit i) = rr i) := Lib.hid (fun i => by rw [← hrr])
  clear hrr
  go_enter Try.func141, Try.ntmps141
  go_wp2
  go_loopw [9] (fun i wr => ∃ (i' : Nat) (v : Later B W), i' ≤ m ∧ i = .int .i64 i' ∧ wr = v.val ∧ Hid (∀ j, j < i' → st j = none)) (fun i _ => m - (intOf i).toNat)
  case atStart => exact ⟨0, u, by omega, rfl, rfl, Lib.hid (fun i hi => by omega)⟩
  case round =>
    obtain ⟨i, v, hi, rfl, rfl, HN⟩ := hrel
    by_cases hlt2 : i < m
    case neg =>
      have hr := HNo.out (fun j hj => HN.out j (by omega))
      subst hr
      clear HNo HN HSt
      go_wp2
      go_ret
      exact RetP.mk v (.inl ⟨rfl, rfl⟩)
    have HNx : Hid (st i = none → ∀ j, j < i + 1 → st j = none) := Lib.hid (fun h j hj => by
      by_cases c : j = i
      · subst c; exact h
      · exact HN.out j (by omega))
    have HYs : Hid (∀ l, st i = some l → res = some l) := Lib.hid (fun l h => HSt.out i l hlt2 h HN.out)
    have hbi := bit_lt i (by omega)
    have hbc := bit_cast i
    have w1 := IntWalk.i64_in (bit i : Int) (by omega)
    have w2 := IntWalk.i64_in ((k : Int) + 1) (by omega)
    have hui := or_lt_bit hu (bit_lt_bit hlt2)
    have o1 := i64_or used (bit i) (by omega) (by omega)
    have KI1 := Lib.hid (fun v : Later B W => c_in v s i (by omega) (by omega))
    have KI2 := Lib.hid (fun v : Later B W => c_in v used i (by omega) (by omega))
    have hD := HDef.out i
    rw [HRr.out i] at hD
    have HD := Lib.hid hD
    have HI2 := Lib.hid (fun v => HIH.out v i hlt2)
    rw [HRr.out i] at HI2
    have HR8 := Lib.hid (fun l => HRl.out i l)
    rw [HRr.out i] at HR8
    clear hD HN HSt HNo
    rcases btf (s.testBit i) with g1 | g1
    case inr =>
      rw [g1] at KI1
      have HN2 := Lib.hid (HNx.out (by rw [HD.out, g1]; rfl))
      clear g1 HNx HYs HD HI2
      go_wp2
      refine wp_region_later v (by kernel_rfl) (by kernel_rfl) (fun _ => ?_)
      repeat (first | go_big_quiet_step (((go_at_call 21; exact KI1.out _))) | (refine wpQuiet_step (fun K hK => ?_); go_simp; refine ⟨_, fun _ => rfl, ?_⟩; refine hK _ ?_; clear hK K))
      refine wpQuiet_nil ?_
      intro v
      go_wp2
      go_roundw
      case rel => exact ⟨i+1, v, by omega, by go_num, rfl, HN2⟩
      case measure => simp [intOf]; omega
    rw [g1] at KI1
    rcases btf (used.testBit i) with g2 | g2
    case inl =>
      rw [g2] at KI2
      have HN2 := Lib.hid (HNx.out (by rw [HD.out, g1]; unfold gRef; rw [g2]; rfl))
      clear g1 g2 HNx HYs HD HI2
      go_wp2
      refine wp_region_later v (by kernel_rfl) (by kernel_rfl) (fun _ => ?_)
      repeat (first | go_big_quiet_step ((first | (go_at_call 21; exact KI1.out _) | (go_at_call 21; exact KI2.out _))) | (refine wpQuiet_step (fun K hK => ?_); go_simp; refine ⟨_, fun _ => rfl, ?_⟩; refine hK _ ?_; clear hK K))
      refine wpQuiet_nil ?_
      intro v
      go_wp2
      go_roundw
      case rel => exact ⟨i+1, v, by omega, by go_num, rfl, HN2⟩
      case measure => simp [intOf]; omega
    rw [g2] at KI2
    by_cases g3 : rk L (used ||| bit i) = sz (used ||| bit i)
    case neg =>
      have KG1 := Lib.hid (fun v : Later B W => HKG.out v (used ||| bit i) false hui (by simp [g3]))
      have HN2 := Lib.hid (HNx.out (by rw [HD.out, g1]; unfold gRef; rw [g2]; simp [g3]))
      clear g1 g2 g3 HNx HYs HD HI2
      go_wp2
      refine wp_region_later v (by kernel_rfl) (by kernel_rfl) (fun _ => ?_)
      repeat (first | go_big_quiet_step ((first | (go_at_call 21; exact KI1.out _) | (go_at_call 21; exact KI2.out _) | (go_at_call 87; exact KG1.out _))) | (refine wpQuiet_step (fun K hK => ?_); go_simp; refine ⟨_, fun _ => rfl, ?_⟩; refine hK _ ?_; clear hK K))
      refine wpQuiet_nil ?_
      intro v
      go_wp2
      go_roundw
      case rel => exact ⟨i+1, v, by omega, by go_num, rfl, HN2⟩
      case measure => simp [intOf]; omega
    have KG1 := Lib.hid (fun v : Later B W => HKG.out v (used ||| bit i) true hui (by simp [g3]))
    have HD2 : Hid (st i = (rr i).map (fun l => i :: l)) := Lib.hid (by rw [HD.out, g1]; unfold gRef; rw [g2]; simp [g3])
    clear g1 g2 g3 HD
    go_wp2
    refine wp_region_later v (by kernel_rfl) (by kernel_rfl) (fun _ => ?_)
    repeat (first | go_big_quiet_step ((first | (go_at_call 21; exact KI1.out _) | (go_at_call 21; exact KI2.out _) | (go_at_call 87; exact KG1.out _))) | (refine wpQuiet_step (fun K hK => ?_); go_simp; refine ⟨_, fun _ => rfl, ?_⟩; refine hK _ ?_; clear hK K))
    refine wpQuiet_nil ?_
    intro v
    go_upto_region 7 with fail
    have s0 : v.val.drew.cell? ⟨bf, 0, none⟩ = some (.func (.func 141) #[] #[.pointer (some ⟨bl, 0, none⟩), .pointer (some ⟨bn, 0, none⟩), .pointer (some ⟨bg, 0, none⟩), .pointer (some ⟨bf, 0, none⟩)]) := qf v.drew
    have K1 := Lib.hid (HI2.out v.drew)
    have K1' : Hid (Calls Try.prog 141 #[.int .i64 ((k : Int) + 1), .int .i64 ((used ||| bit i : Nat) : Int), .pointer (some ⟨bl, 0, none⟩), .pointer (some ⟨bn, 0, none⟩), .pointer (some ⟨bg, 0, none⟩), .pointer (some ⟨bf, 0, none⟩)] v.val.drew (RetP B W (OptRow (rr i)))) := K1
    clear KI1 KI2 KG1 HI2 K1
    go_region_held3 (fun w' => w'.cell? ⟨bf, 0, none⟩ = some (.func (.func 141) #[] #[.pointer (some ⟨bl, 0, none⟩), .pointer (some ⟨bn, 0, none⟩), .pointer (some ⟨bg, 0, none⟩), .pointer (some ⟨bf, 0, none⟩)])) (first | exact s0 | exact qf v2) (first | (go_at_call 141; refine (K1'.out).mono ?_; rintro e _ ⟨ov, rfl, hov, v2, rfl⟩))
    rcases hov with ⟨h1, rfl⟩ | ⟨l, b2, off2, cp2, h1, rfl, hI2⟩
    · have HN2 := Lib.hid (HNx.out (by rw [HD2.out, h1]; rfl))
      clear HNx HYs HD2 h1
      go_wp2
      go_roundw
      case rel => exact ⟨i+1, v2, by omega, by go_num, rfl, HN2⟩
      case measure => simp [intOf]; omega
    · have hr := HYs.out (i :: l) (by rw [HD2.out, h1]; rfl)
      subst hr
      have HI3 := Lib.hid hI2
      have HL8 := Lib.hid (HR8.out l h1)
      clear HNx HYs HD2 h1 hI2
      go_wp2_with (first | (at_builtin; refine wpList_appends_g (B := v2.val.heap.size) (by simp) rfl _ _ rfl [(i : Int)] (some ⟨v2.val.heap.size, 0, none⟩) 1 rfl (Own.lit (Nat.le_refl _) _) (ints l) (some ⟨b2, off2, none⟩) cp2 rfl ((HI3.out.later ((Below.refl _ _).alloc (Nat.le_refl _) _)).mono (by simp)) (by simp) (by have := HL8.out; rw [ints_len]; simp; omega) ?_; intro w' ad' cap' hown hgrow))
      go_ret
      obtain ⟨gg, rfl⟩ := own_some hown (by simp)
      refine RetP.mk (v2.to w' ((own_below ((Below.refl _ _).alloc (Nat.le_refl _) _) (by simp) (Own.lit (Nat.le_refl _) _) hgrow).mono v2.size)) (.inr ⟨i :: l, gg, 0, _, rfl, rfl, hown.reads⟩)

end Go.Proofs.Ytcljgnmlpfddiaa
