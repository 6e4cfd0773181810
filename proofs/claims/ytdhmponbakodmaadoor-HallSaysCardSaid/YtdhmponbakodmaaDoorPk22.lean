
/-
  rotaref.Stand where every set is good.
  rotaref.Stand.
-/
import Derived.Deep.CutRange
import Derived.Deep.CutBlock
import Derived.Deep.RegionHeld3
import Derived.Test.YtdhmponbakodmaaDoorPk17
import Derived.Test.YtdhmponbakodmaaDoorPk08
import Derived.Test.YtdhmponbakodmaaDoorPk10
import Derived.Test.YtdhmponbakodmaaDoorPk12
import Derived.Test.YtdhmponbakodmaaDoorPk19
namespace Go.Proofs.YtdhmponbakodmaaDoor
open Go.RowKit
set_option linter.unusedVariables false

/-- a row that is nil, or one that is not -/
def OptRow (r : Option (List Nat)) (v : Value) (w : World) : Prop := (r = none ∧ v = .slice none 0 0) ∨ (∃ l b off cp, r = some l ∧ v = .slice (some ⟨b, off, none⟩) (ints l).length cp ∧ IntsAt w.heap.size w (some ⟨b, off, none⟩) (ints l))
set_option maxRecDepth 100000 in
set_option maxHeartbeats 8000000 in
theorem c_standFrom (B : Nat) (W : World) (m : Nat) (hm : m ≤ 8) (ls : List Nat) (h8 : ls.length ≤ 8) (hls : ∀ k, k < ls.length → ls.getD k 0 < bit m) (L : List Nat) (al : Option Addr) (capl bl bn bg bf br : Nat) (hlt : bl < B ∧ bn < B ∧ bg < B ∧ bf < B)
    (hI : IntsAt B W al (ints ls)) (cl : W.cell? ⟨bl, 0, none⟩ = some (.slice al (ints ls).length capl)) (cn : W.cell? ⟨bn, 0, none⟩ = some (.int .i64 m)) (cg : W.cell? ⟨bg, 0, none⟩ = some (.func (.func 11) #[] #[]))
    (cf : W.cell? ⟨bf, 0, none⟩ = some (.func (.func 23) #[] #[.pointer (some ⟨bl, 0, none⟩), .pointer (some ⟨bn, 0, none⟩), .pointer (some ⟨bg, 0, none⟩), .pointer (some ⟨bf, 0, none⟩)]))
    (KG : ∀ (v : Later B W) (s : Nat) (d : Bool), s < bit m → d = decide (rk L s = sz s) → Calls Tryd.prog 11 #[.int .i64 s] v.val (Ret B W (.bool d))) :
    ∀ rem k used, ls.length - k = rem → k ≤ ls.length → used < bit m → ∀ u : Later B W,
    Calls Tryd.prog 23 #[.int .i64 k, .int .i64 used, .pointer (some ⟨bl, 0, none⟩), .pointer (some ⟨bn, 0, none⟩), .pointer (some ⟨bg, 0, none⟩), .pointer (some ⟨bf, 0, none⟩)] u.val (RetP B W (OptRow (rado m (gRef L) (ls.drop k) used))) := by
  have hb := bit_le m hm
  have ql : ∀ v : Later B W, v.val.cell? ⟨bl, 0, none⟩ = some (.slice al ls.length capl) := fun v => by rw [v.cell hlt.1, cl, ints_len]
  have qn : ∀ v : Later B W, v.val.cell? ⟨bn, 0, none⟩ = some (.int .i64 m) := fun v => by rw [v.cell hlt.2.1]; exact cn
  have qg : ∀ v : Later B W, v.val.cell? ⟨bg, 0, none⟩ = some (.func (.func 11) #[] #[]) := fun v => by rw [v.cell hlt.2.2.1]; exact cg
  have qf : ∀ v : Later B W, v.val.cell? ⟨bf, 0, none⟩ = some (.func (.func 23) #[] #[.pointer (some ⟨bl, 0, none⟩), .pointer (some ⟨bn, 0, none⟩), .pointer (some ⟨bg, 0, none⟩), .pointer (some ⟨bf, 0, none⟩)]) := fun v => by rw [v.cell hlt.2.2.2]; exact cf
  have hp1 : ∀ (args : Array Value) (w : World), (callFunc 23 args).run Tryd.prog w = .ok (.enter 23 args) w := fun _ _ => by kernel_rfl
  have hp2 : ∀ (args : Array Value) (w : World), (callFunc 11 args).run Tryd.prog w = .ok (.enter 11 args) w := fun _ _ => by kernel_rfl
  have HI := Lib.hid hI
  have HKG := Lib.hid KG
  have HLs := Lib.hid hls
  clear hI cl cn cg cf KG hls hlt
  intro rem
  induction rem using Nat.strongRecOn with
  | ind rem ih =>
  intro k used hrem hk hu u
  have IH := Lib.hid ih
  clear ih
  by_cases hke : k = ls.length
  · have d0 : ((k : Int) == (ls.length : Int)) = true := by rw [beq_iff_eq]; omega
    have hR : rado m (gRef L) (ls.drop k) used = some [] := by rw [hke, List.drop_length]; rfl
    rw [hR]
    clear hR IH hrem
    go_enter Tryd.func23, Tryd.ntmps23
    go_wp2
    go_ret
    exact RetP.mk (u.alloc (.cells #[] 3)) (.inr ⟨[], u.val.heap.size, 0, 0, rfl, rfl, IntsAt.nil⟩)
  have hkl : k < ls.length := by omega
  have d0 : ((k : Int) == (ls.length : Int)) = false := by rw [beq_eq_false_iff_ne]; omega
  have hdrop : ls.drop k = ls.getD k 0 :: ls.drop (k+1) := by
    rw [List.drop_eq_getElem_cons hkl]
    congr 1
    simp [hkl]
  have HSt : Hid (∀ i l, i < m → radoStep m (gRef L) (ls.getD k 0) (ls.drop (k+1)) used i = some l → (∀ j, j < i → radoStep m (gRef L) (ls.getD k 0) (ls.drop (k+1)) used j = none) → rado m (gRef L) (ls.drop k) used = some l) := Lib.hid (fun i l hi h hno => by rw [hdrop]; exact rado_some hi h hno)
  have HNo : Hid ((∀ j, j < m → radoStep m (gRef L) (ls.getD k 0) (ls.drop (k+1)) used j = none) → rado m (gRef L) (ls.drop k) used = none) := Lib.hid (fun h => by rw [hdrop]; exact rado_none h)
  have hsk := HLs.out k hkl
  obtain ⟨bb, off, rfl, hbB, hcell⟩ := HI.out.at (k := k) (by rw [ints_len]; exact hkl)
  have c0 : ∀ v : Later B W, v.val.cell? ⟨bb, off + k, none⟩ = some (.int .i64 ((ls.getD k 0 : Nat) : Int)) := fun v => by rw [← ints_getD]; exact hcell v k (by rw [ints_len]; exact hkl)
  have HIH : Hid (∀ (v : Later B W) (i : Nat), i < m → Calls Tryd.prog 23 #[.int .i64 ((k + 1 : Nat) : Int), .int .i64 ((used ||| bit i : Nat) : Int), .pointer (some ⟨bl, 0, none⟩), .pointer (some ⟨bn, 0, none⟩), .pointer (some ⟨bg, 0, none⟩), .pointer (some ⟨bf, 0, none⟩)] v.val (RetP B W (OptRow (rado m (gRef L) (ls.drop (k+1)) (used ||| bit i))))) := Lib.hid (fun v i hi => IH.out (ls.length - (k+1)) (by omega) (k+1) (used ||| bit i) rfl (by omega) (or_lt_bit hu (bit_lt_bit hi)) v)
  have HDef : Hid (∀ i, radoStep m (gRef L) (ls.getD k 0) (ls.drop (k+1)) used i = if (ls.getD k 0).testBit i && gRef L used i then (rado m (gRef L) (ls.drop (k+1)) (used ||| bit i)).map (fun l => i :: l) else none) := Lib.hid (fun i => rfl)
  have HRl : Hid (∀ i l, rado m (gRef L) (ls.drop (k+1)) (used ||| bit i) = some l → l.length ≤ 8) := Lib.hid (fun i l h => by rw [rado_len _ _ _ h]; simp; omega)
  clear hdrop hcell IH
  generalize hres : rado m (gRef L) (ls.drop k) used = res at *
  clear hres
  generalize ls.getD k 0 = s at *
  generalize hstep : radoStep m (gRef L) s (ls.drop (k+1)) used = st at *
  clear hstep
  generalize hrr : (fun i => rado m (gRef L) (ls.drop (k+1)) (used ||| bit i)) = rr at *
  have HRr : Hid (∀ i, rado m (gRef L) (ls.drop (k+1)) (used ||| bit i) = rr i) := Lib.hid (fun i => by rw [← hrr])
  clear hrr
  go_enter Tryd.func23, Tryd.ntmps23
  go_wp2
  go_loopw [9] (fun i wr => ∃ (i' : Nat) (v : Later B W), i' ≤ m ∧ i = .int .i64 i' ∧ wr = v.val ∧ Hid (∀ j, j < i' → st j = none)) (fun i _ => m - (intOf i).toNat)
  case atStart => exact ⟨0, u, by omega, rfl, rfl, Lib.hid (fun i hi => by omega)⟩
  case round =>
    obtain ⟨i, v, hi, rfl, rfl, HN⟩ := hrel
    by_cases hlt2 : i < m
    case neg =>
      have hr := HNo.out (fun j hj => HN.out j (by omega))
      subst hr
      clear HNo HN HSt
      go_wp2
      go_ret
      exact RetP.mk v (.inl ⟨rfl, rfl⟩)
    have HNx : Hid (st i = none → ∀ j, j < i + 1 → st j = none) := Lib.hid (fun h j hj => by
      by_cases c : j = i
      · subst c; exact h
      · exact HN.out j (by omega))
    have HYs : Hid (∀ l, st i = some l → res = some l) := Lib.hid (fun l h => HSt.out i l hlt2 h HN.out)
    have hbi := bit_lt i (by omega)
    have hbc := bit_cast i
    have w1 := IntWalk.i64_in (bit i : Int) (by omega)
    have w2 := IntWalk.i64_in ((k : Int) + 1) (by omega)
    have hui := or_lt_bit hu (bit_lt_bit hlt2)
    have o1 := i64_or used (bit i) (by omega) (by omega)
    have KI1 := Lib.hid (fun v : Later B W => c_in v s i (by omega) (by omega))
    have KI2 := Lib.hid (fun v : Later B W => c_in v used i (by omega) (by omega))
    have hD := HDef.out i
    rw [HRr.out i] at hD
    have HD := Lib.hid hD
    have HI2 := Lib.hid (fun v => HIH.out v i hlt2)
    rw [HRr.out i] at HI2
    have HR8 := Lib.hid (fun l => HRl.out i l)
    rw [HRr.out i] at HR8
    clear hD HN HSt HNo
    rcases btf (s.testBit i) with g1 | g1
    case inr =>
      rw [g1] at KI1
      have HN2 := Lib.hid (HNx.out (by rw [HD.out, g1]; rfl))
      clear g1 HNx HYs HD HI2
      go_wp2
      refine wp_region_later v (by kernel_rfl) (by kernel_rfl) (fun _ => ?_)
      repeat (first | go_big_quiet_step (((go_at_call 24; exact KI1.out _))) | (refine wpQuiet_step (fun K hK => ?_); go_simp; refine ⟨_, fun _ => rfl, ?_⟩; refine hK _ ?_; clear hK K))
      refine wpQuiet_nil ?_
      intro v
      go_wp2
      go_roundw
      case rel => exact ⟨i+1, v, by omega, by go_num, rfl, HN2⟩
      case measure => simp [intOf]; omega
    rw [g1] at KI1
    rcases btf (used.testBit i) with g2 | g2
    case inl =>
      rw [g2] at KI2
      have HN2 := Lib.hid (HNx.out (by rw [HD.out, g1]; unfold gRef; rw [g2]; rfl))
      clear g1 g2 HNx HYs HD HI2
      go_wp2
      refine wp_region_later v (by kernel_rfl) (by kernel_rfl) (fun _ => ?_)
      repeat (first | go_big_quiet_step ((first | (go_at_call 24; exact KI1.out _) | (go_at_call 24; exact KI2.out _))) | (refine wpQuiet_step (fun K hK => ?_); go_simp; refine ⟨_, fun _ => rfl, ?_⟩; refine hK _ ?_; clear hK K))
      refine wpQuiet_nil ?_
      intro v
      go_wp2
      go_roundw
      case rel => exact ⟨i+1, v, by omega, by go_num, rfl, HN2⟩
      case measure => simp [intOf]; omega
    rw [g2] at KI2
    by_cases g3 : rk L (used ||| bit i) = sz (used ||| bit i)
    case neg =>
      have KG1 := Lib.hid (fun v : Later B W => HKG.out v (used ||| bit i) false hui (by simp [g3]))
      have HN2 := Lib.hid (HNx.out (by rw [HD.out, g1]; unfold gRef; rw [g2]; simp [g3]))
      clear g1 g2 g3 HNx HYs HD HI2
      go_wp2
      refine wp_region_later v (by kernel_rfl) (by kernel_rfl) (fun _ => ?_)
      repeat (first | go_big_quiet_step ((first | (go_at_call 24; exact KI1.out _) | (go_at_call 24; exact KI2.out _) | (go_at_call 11; exact KG1.out _))) | (refine wpQuiet_step (fun K hK => ?_); go_simp; refine ⟨_, fun _ => rfl, ?_⟩; refine hK _ ?_; clear hK K))
      refine wpQuiet_nil ?_
      intro v
      go_wp2
      go_roundw
      case rel => exact ⟨i+1, v, by omega, by go_num, rfl, HN2⟩
      case measure => simp [intOf]; omega
    have KG1 := Lib.hid (fun v : Later B W => HKG.out v (used ||| bit i) true hui (by simp [g3]))
    have HD2 : Hid (st i = (rr i).map (fun l => i :: l)) := Lib.hid (by rw [HD.out, g1]; unfold gRef; rw [g2]; simp [g3])
    clear g1 g2 g3 HD
    go_wp2
    refine wp_region_later v (by kernel_rfl) (by kernel_rfl) (fun _ => ?_)
    repeat (first | go_big_quiet_step ((first | (go_at_call 24; exact KI1.out _) | (go_at_call 24; exact KI2.out _) | (go_at_call 11; exact KG1.out _))) | (refine wpQuiet_step (fun K hK => ?_); go_simp; refine ⟨_, fun _ => rfl, ?_⟩; refine hK _ ?_; clear hK K))
    refine wpQuiet_nil ?_
    intro v
    go_upto_region 7 with fail
    have s0 : v.val.drew.cell? ⟨bf, 0, none⟩ = some (.func (.func 23) #[] #[.pointer (some ⟨bl, 0, none⟩), .pointer (some ⟨bn, 0, none⟩), .pointer (some ⟨bg, 0, none⟩), .pointer (some ⟨bf, 0, none⟩)]) := qf v.drew
    have K1 := Lib.hid (HI2.out v.drew)
    have K1' : Hid (Calls Tryd.prog 23 #[.int .i64 ((k : Int) + 1), .int .i64 ((used ||| bit i : Nat) : Int), .pointer (some ⟨bl, 0, none⟩), .pointer (some ⟨bn, 0, none⟩), .pointer (some ⟨bg, 0, none⟩), .pointer (some ⟨bf, 0, none⟩)] v.val.drew (RetP B W (OptRow (rr i)))) := K1
    clear KI1 KI2 KG1 HI2 K1
    go_region_held3 (fun w' => w'.cell? ⟨bf, 0, none⟩ = some (.func (.func 23) #[] #[.pointer (some ⟨bl, 0, none⟩), .pointer (some ⟨bn, 0, none⟩), .pointer (some ⟨bg, 0, none⟩), .pointer (some ⟨bf, 0, none⟩)])) (first | exact s0 | exact qf v2) (first | (go_at_call 23; refine (K1'.out).mono ?_; rintro e _ ⟨ov, rfl, hov, v2, rfl⟩))
    rcases hov with ⟨h1, rfl⟩ | ⟨l, b2, off2, cp2, h1, rfl, hI2⟩
    · have HN2 := Lib.hid (HNx.out (by rw [HD2.out, h1]; rfl))
      clear HNx HYs HD2 h1
      go_wp2
      go_roundw
      case rel => exact ⟨i+1, v2, by omega, by go_num, rfl, HN2⟩
      case measure => simp [intOf]; omega
    · have hr := HYs.out (i :: l) (by rw [HD2.out, h1]; rfl)
      subst hr
      have HI3 := Lib.hid hI2
      have HL8 := Lib.hid (HR8.out l h1)
      clear HNx HYs HD2 h1 hI2
      go_wp2_with (first | (at_builtin; refine wpList_appends_g (B := v2.val.heap.size) (by simp) rfl _ _ rfl [(i : Int)] (some ⟨v2.val.heap.size, 0, none⟩) 1 rfl (Own.lit (Nat.le_refl _) _) (ints l) (some ⟨b2, off2, none⟩) cp2 rfl ((HI3.out.later ((Below.refl _ _).alloc (Nat.le_refl _) _)).mono (by simp)) (by simp) (by have := HL8.out; rw [ints_len]; simp; omega) ?_; intro w' ad' cap' hown hgrow))
      go_ret
      obtain ⟨gg, rfl⟩ := own_some hown (by simp)
      refine RetP.mk (v2.to w' ((own_below ((Below.refl _ _).alloc (Nat.le_refl _) _) (by simp) (Own.lit (Nat.le_refl _) _) hgrow).mono v2.size)) (.inr ⟨i :: l, gg, 0, _, rfl, rfl, hown.reads⟩)

end Go.Proofs.YtdhmponbakodmaaDoor

namespace Go.Proofs.YtdhmponbakodmaaDoor
open Go.RowKit
set_option linter.unusedVariables false

/-- the world that rotaref.Stand has made ahead of its function value -/
def madeS (w : World) (m : Nat) (al : Option Addr) (len capl : Nat) : World :=
  ((w.alloc (.cells #[.int .i64 m] 3)).alloc (.cells #[.slice al len capl] 22)).alloc (.cells #[.func (.func 11) #[] #[]] 33)
theorem madeS_size (w : World) (m : Nat) (al : Option Addr) (len capl : Nat) : (madeS w m al len capl).heap.size = w.heap.size + 3 := by simp [madeS]
theorem madeS_cells (w : World) (m : Nat) (al : Option Addr) (len capl : Nat) :
    RowAt1 (madeS w m al len capl) w.heap.size 3 (.int .i64 m) ∧ RowAt1 (madeS w m al len capl) (w.heap.size + 1) 22 (.slice al len capl) ∧ RowAt1 (madeS w m al len capl) (w.heap.size + 2) 33 (.func (.func 11) #[] #[]) := by
  have t0 := row1_under (row1_under (show RowAt1 (w.alloc (.cells #[.int .i64 m] 3)) w.heap.size 3 (.int .i64 m) from heap_alloc_new _ _) (.cells #[.slice al len capl] 22)) (.cells #[.func (.func 11) #[] #[]] 33)
  have t1 := row1_under (show RowAt1 ((w.alloc (.cells #[.int .i64 m] 3)).alloc (.cells #[.slice al len capl] 22)) (w.alloc (.cells #[.int .i64 m] 3)).heap.size 22 (.slice al len capl) from heap_alloc_new _ _) (.cells #[.func (.func 11) #[] #[]] 33)
  have t2 : RowAt1 (madeS w m al len capl) ((w.alloc (.cells #[.int .i64 m] 3)).alloc (.cells #[.slice al len capl] 22)).heap.size 33 (.func (.func 11) #[] #[]) := heap_alloc_new _ _
  refine ⟨t0, ?_, ?_⟩
  · simpa [madeS] using t1
  · simpa [madeS] using t2
theorem madeS_below (w : World) (m : Nat) (al : Option Addr) (len capl : Nat) : Below w.heap.size w (madeS w m al len capl) := by
  unfold madeS
  refine Below.alloc (Below.alloc (Below.alloc (Below.refl _ _) ?_ _) ?_ _) ?_ _ <;> simp <;> omega

/-- what rotaref.Stand gives back -/
def StandRes (r : Option (List Nat)) (v : Value) (w : World) : Prop := ∃ v1, v = .tuple #[v1, .bool r.isSome] ∧ Reads w.heap.size w v1 (ints (r.getD []))

set_option maxHeartbeats 400000 in
theorem c_allGood {B : Nat} {W : World} (u : Later B W) (s : Int) : Calls Tryd.prog 11 #[.int .i64 s] u.val (Ret B W (.bool true)) := by
  go_enter Tryd.func11, Tryd.ntmps11
  go_wp2
  go_ret
  exact Ret.mk u rfl
theorem all_ind {m s : Nat} (hm : m ≤ 8) (hs : s < bit m) : rk [bit m - 1] s = sz s := by
  have hb := bit_le m hm
  refine (ind_rk (by simp) (by omega)).1 ⟨bit m - 1, by simp, fun j hj => ?_⟩
  rw [testBit_all]
  have := (lt_pow_iff m _ hm (by omega)).1 hs j (lt_of_testBit (by omega) hj) hj
  simpa using this

set_option maxRecDepth 100000 in
set_option maxHeartbeats 8000000 in
theorem c_stand {B : Nat} {W : World} (u : Later B W) (m : Nat) (hm : m ≤ 8) (ls : List Nat) (h8 : ls.length ≤ 8) (hls : ∀ k, k < ls.length → ls.getD k 0 < bit m) (al : Option Addr) (capl : Nat) (h : IntsAt B W al (ints ls)) :
    Calls Tryd.prog 10 #[.int .i64 m, .slice al (ints ls).length capl, .func (.func 11) #[] #[]] u.val (RetP B W (StandRes (rado m (gAll m) ls 0))) := by
  have hb := bit_le m hm
  have huB := u.size
  rw [ints_len]
  by_cases h0 : ls.length = 0
  · have d0 : ((ls.length : Int) == 0) = true := by rw [beq_iff_eq]; omega
    have hl : ls = [] := List.length_eq_zero_iff.1 h0
    have hR : rado m (gAll m) ls 0 = some [] := by rw [hl]; rfl
    rw [hR]
    clear hR
    go_enter Tryd.func10, Tryd.ntmps10
    go_wp2
    go_ret2
    exact RetP.mk (((u.alloc _).alloc _).alloc _) ⟨_, rfl, Reads.nil _ _⟩
  have d0 : ((ls.length : Int) == 0) = false := by rw [beq_eq_false_iff_ne]; omega
  have HU : Hid (∀ w : World, Below u.val.heap.size u.val w → ∃ u' : Later B W, u'.val = w) := Lib.hid (fun w hb => ⟨u.to w (hb.mono huB), rfl⟩)
  have HI : Hid (IntsAt u.val.heap.size u.val al (ints ls)) := Lib.hid (h.to u)
  clear h h0
  have hp1 : ∀ (args : Array Value) (w : World), (callFunc 23 args).run Tryd.prog w = .ok (.enter 23 args) w := fun _ _ => by kernel_rfl
  go_enter Tryd.func10, Tryd.ntmps10
  go_upto_region 3 with fail
  rw [show ((u.val.alloc (.cells #[.int .i64 m] 3)).alloc (.cells #[.slice al ls.length capl] 22)).alloc (.cells #[.func (.func 11) #[] #[]] 33) = madeS u.val m al ls.length capl from rfl]
  have C3 := Lib.hid (madeS_cells u.val m al ls.length capl)
  have S3 := Lib.hid (madeS_size u.val m al ls.length capl)
  have B3 := Lib.hid (madeS_below u.val m al ls.length capl)
  generalize madeS u.val m al ls.length capl = w3 at *
  generalize u.val = V at *
  clear u huB
  have hsf := fun (a : Addr) (c : Array Value) (w : World) => run_store Tryd.prog w a (.func (.func 23) #[] c) .plain rfl
  have HX : Hid (Below V.heap.size V (w3.alloc (.cells #[.func (.func 23) #[] #[.pointer (some ⟨V.heap.size + 1, 0, none⟩), .pointer (some ⟨V.heap.size, 0, none⟩), .pointer (some ⟨V.heap.size + 1 + 1, 0, none⟩), .pointer (some ⟨w3.heap.size, 0, none⟩)]] 46))) := Lib.hid (B3.out.alloc (by have := S3.out; omega) _)
  have K : Hid (Calls Tryd.prog 23 #[.int .i64 0, .int .i64 0, .pointer (some ⟨V.heap.size + 1, 0, none⟩), .pointer (some ⟨V.heap.size, 0, none⟩), .pointer (some ⟨V.heap.size + 1 + 1, 0, none⟩), .pointer (some ⟨w3.heap.size, 0, none⟩)] (w3.alloc (.cells #[.func (.func 23) #[] #[.pointer (some ⟨V.heap.size + 1, 0, none⟩), .pointer (some ⟨V.heap.size, 0, none⟩), .pointer (some ⟨V.heap.size + 1 + 1, 0, none⟩), .pointer (some ⟨w3.heap.size, 0, none⟩)]] 46)) (RetP V.heap.size V (OptRow (rado m (gAll m) ls 0)))) := Lib.hid (by
    generalize hw4 : w3.alloc (.cells #[.func (.func 23) #[] #[.pointer (some ⟨V.heap.size + 1, 0, none⟩), .pointer (some ⟨V.heap.size, 0, none⟩), .pointer (some ⟨V.heap.size + 1 + 1, 0, none⟩), .pointer (some ⟨w3.heap.size, 0, none⟩)]] 46) = w4 at *
    obtain ⟨r0, r1, r2⟩ := C3.out
    have hs3 := S3.out
    have hsz : w4.heap.size = w3.heap.size + 1 := by rw [← hw4]; simp
    have k4 : RowAt1 w4 w3.heap.size 46 (.func (.func 23) #[] #[.pointer (some ⟨V.heap.size + 1, 0, none⟩), .pointer (some ⟨V.heap.size, 0, none⟩), .pointer (some ⟨V.heap.size + 1 + 1, 0, none⟩), .pointer (some ⟨w3.heap.size, 0, none⟩)]) := by rw [← hw4]; exact heap_alloc_new _ _
    have k0 : RowAt1 w4 V.heap.size 3 (.int .i64 m) := by rw [← hw4]; exact row1_under r0 _
    have k1 : RowAt1 w4 (V.heap.size + 1) 22 (.slice al ls.length capl) := by rw [← hw4]; exact row1_under r1 _
    have k2 : RowAt1 w4 (V.heap.size + 1 + 1) 33 (.func (.func 11) #[] #[]) := by rw [← hw4]; exact row1_under r2 _
    have hbel := HX.out
    have := c_standFrom w4.heap.size w4 m hm ls h8 hls [bit m - 1] al capl (V.heap.size + 1) V.heap.size (V.heap.size + 1 + 1) w3.heap.size 0 ⟨by omega, by omega, by omega, by omega⟩ ((HI.out.later hbel).mono (by omega)) (by rw [ints_len]; exact k1.c0) k0.c0 k2.c0 k4.c0 (fun v s d hs hd => by rw [hd, all_ind hm hs]; simpa using c_allGood v s) ls.length 0 0 rfl (by omega) (by omega) (Later.self w4)
    rw [List.drop_zero] at this
    refine this.mono ?_
    rintro e _ ⟨v, rfl, hv, v4, rfl⟩
    exact ⟨v, rfl, hv, ⟨v4.val, hbel.trans (v4.below.mono (by omega)), by have := v4.size; omega⟩, rfl⟩)
  clear HX HI C3
  generalize rado m (gAll m) ls 0 = res at *
  go_upto_region 6 with (first | (go_at_call 23; (with_reducible refine (K.out).mono ?_); rintro e _ ⟨ov, rfl, hov, v2, rfl⟩))
  have HV := Lib.hid (HU.out v2.val v2.below)
  clear K HU B3
  rcases hov with ⟨h1, rfl⟩ | ⟨l, b2, off2, cp2, h1, rfl, hI2⟩
  · subst h1
    go_wp2
    go_ret2
    exact RetP.of HV.out ⟨_, rfl, Reads.nil _ _⟩
  · subst h1
    have HI2 := Lib.hid hI2
    clear hI2
    go_wp2
    go_ret2
    exact RetP.of HV.out ⟨_, rfl, ⟨_, _, rfl, HI2.out, by simp⟩⟩

end Go.Proofs.YtdhmponbakodmaaDoor
