
/-
  rotaref.Orders' function value: the search over orders, pruned by habits.
-/
import Derived.Test.YtdcdhdlklppalaaPk12
import Derived.Test.YtdcdhdlklppalaaPk13
import Derived.Test.YtdcdhdlklppalaaPk17
import Derived.Deep.CutRange
import Derived.Deep.CutBlock
import Derived.Deep.RegionHeld3
namespace Go.Proofs.Ytdcdhdlklppalaa
open Go.RowKit
set_option linter.unusedVariables false

/-- what the search finds in memory, whenever -/
structure OrdOk (B bp : Nat) (W : World) (D : Nat → Prop) (n : Nat) (L1 L2 : List Nat) (cnt : Nat → Int) (kf : FuncId) (caps : Array Value) (aa ax az : Option Addr) (capa gs cs gx cx gz cz ba bs bd bb bx bz bf : Nat) : Prop where
  n8 : n ≤ 8
  hbp : bp < B
  len : L1.length ≤ 256
  lt : ∀ b, b ∈ L1 → b < bit n
  cnt0 : ∀ s, s < bit n → (cnt s = 0 ↔ s ∉ L2)
  ca : ∀ v : Off B (fun k => k = bp ∨ D k) W, v.val.cell? ⟨ba, 0, none⟩ = some (.int .i64 n)
  ca1 : ∀ v : Off B (fun k => k = bp ∨ D k) W, v.val.cell? ⟨ba, 1, none⟩ = some (.slice aa L1.length capa)
  li : ∀ v : Off B (fun k => k = bp ∨ D k) W, IntsAt v.val.heap.size v.val aa (ints L1)
  cs_ : ∀ v : Off B (fun k => k = bp ∨ D k) W, v.val.cell? ⟨bs, 0, none⟩ = some (.slice (some ⟨gs, 0, none⟩) (bit n) cs)
  ts : ∀ (v : Off B (fun k => k = bp ∨ D k) W) (s : Nat), s < bit n → v.val.cell? ⟨gs, s, none⟩ = some (.int .i64 (cnt s))
  cd : ∀ v : Off B (fun k => k = bp ∨ D k) W, v.val.cell? ⟨bd, 0, none⟩ = some (.func (.func kf) #[] caps)
  cb : ∀ v : Off B (fun k => k = bp ∨ D k) W, v.val.cell? ⟨bb, 0, none⟩ = some (.int .i64 n)
  cx_ : ∀ v : Off B (fun k => k = bp ∨ D k) W, v.val.cell? ⟨bx, 0, none⟩ = some (.slice ax n cx)
  hax : 0 < n → ax = some ⟨gx, 0, none⟩
  hx : ∀ i, i < n → ∃ r cp, (∀ v : Off B (fun k => k = bp ∨ D k) W, v.val.cell? ⟨gx, i, none⟩ = some (.slice (some ⟨r, 0, none⟩) 10 cp)) ∧ ∀ v : Off B (fun k => k = bp ∨ D k) W, IntsAt v.val.heap.size v.val (some ⟨r, 0, none⟩) (tabL 10 (hab n L1 i))
  cz_ : ∀ v : Off B (fun k => k = bp ∨ D k) W, v.val.cell? ⟨bz, 0, none⟩ = some (.slice az n cz)
  haz : 0 < n → az = some ⟨gz, 0, none⟩
  hz : ∀ i, i < n → ∃ r cp, (∀ v : Off B (fun k => k = bp ∨ D k) W, v.val.cell? ⟨gz, i, none⟩ = some (.slice (some ⟨r, 0, none⟩) 10 cp)) ∧ ∀ v : Off B (fun k => k = bp ∨ D k) W, IntsAt v.val.heap.size v.val (some ⟨r, 0, none⟩) (tabL 10 (hab n L2 i))
  cf : ∀ v : Off B (fun k => k = bp ∨ D k) W, v.val.cell? ⟨bf, 0, none⟩ = some (.func (.func 48) #[] #[.pointer (some ⟨bp, 0, none⟩), .pointer (some ⟨ba, 0, none⟩), .pointer (some ⟨bs, 0, none⟩), .pointer (some ⟨bd, 0, none⟩), .pointer (some ⟨bb, 0, none⟩), .pointer (some ⟨bx, 0, none⟩), .pointer (some ⟨bz, 0, none⟩), .pointer (some ⟨bf, 0, none⟩)])
theorem srchTo_stepO (n : Nat) (ok : List Nat → Nat → Bool) (fin : List Nat → Bool) (d : Nat) (p : List Nat) (K : Nat) : srchTo n ok fin d p (K + 1) = srchTo n ok fin d p K ++ (if p.contains K = false ∧ ok p K = true then srch n ok fin d (p ++ [K]) else []) := rfl
theorem mem_ints_contains (p : List Nat) (k : Nat) : decide ((k : Int) ∈ ints p) = p.contains k := by
  rw [Bool.eq_iff_iff, decide_eq_true_eq, List.contains_iff_mem]
  constructor
  · intro h
    obtain ⟨m, hm, e⟩ := List.mem_map.1 h
    have : m = k := Int.ofNat.inj e
    rwa [← this]
  · intro h; exact List.mem_map.2 ⟨k, h, rfl⟩

set_option maxRecDepth 100000 in
set_option maxHeartbeats 20000000 in
theorem c_ordFrom (B bp : Nat) (W : World) (D : Nat → Prop) (n : Nat) (L1 L2 : List Nat) (cnt : Nat → Int) (on : Bool) (kf : FuncId) (caps : Array Value) (I : Option Nat → List (List Nat) → World → Prop) (aa ax az : Option Addr) (capa gs cs gx cx gz cz ba bs bd bb bx bz bf : Nat)
    (H : OrdOk B bp W D n L1 L2 cnt kf caps aa ax az capa gs cs gx cx gz cz ba bs bd bb bx bz bf) (HD : DoOn B bp W D n on kf caps I) :
    ∀ d (pre : List Nat) (l : List (List Nat)) (ad : Option Addr) (cp : Nat) (v : Off B (fun k => k = bp ∨ D k) W), Pre n pre → pre.length + d = n → (on = false → l = []) → PAt B bp v.val ad cp pre → I (ownBlk ad) l v.val →
    Calls Try.prog 48 #[.pointer (some ⟨bp, 0, none⟩), .pointer (some ⟨ba, 0, none⟩), .pointer (some ⟨bs, 0, none⟩), .pointer (some ⟨bd, 0, none⟩), .pointer (some ⟨bb, 0, none⟩), .pointer (some ⟨bx, 0, none⟩), .pointer (some ⟨bz, 0, none⟩), .pointer (some ⟨bf, 0, none⟩)] v.val (FromPost B bp W D on I pre l (srch n (okH n L1 L2) (finB L1 L2) d pre)) := by
  have hn8 := H.n8
  have hbn := bit_le n hn8
  have hbp := H.hbp
  have HH := Lib.hid H
  have hp1 : ∀ (args : Array Value) (w : World), (callFunc 48 args).run Try.prog w = .ok (.enter 48 args) w := fun _ _ => by kernel_rfl
  have hp2 : ∀ (args : Array Value) (w : World), (callFunc kf args).run Try.prog w = .ok (.enter kf args) w := HD.plain
  have HDo := Lib.hid HD
  clear H HD
  intro d
  induction d with
  | zero =>
    intro pre l ad cp v hpre hlen hl hP hI
    have hpl : pre.length = n := by omega
    have HP0 := Lib.hid hP
    have HI0 := Lib.hid hI
    have Hpm := Lib.hid (hpre.pm hpl)
    have HLn := Lib.hid hpl
    have Hl := Lib.hid hl
    have c0 : v.val.cell? ⟨bp, 0, none⟩ = some (.slice ad n cp) := by rw [← hpl]; exact hP.1.c0
    have qav := HH.out.ca v
    have dd : ((n : Int) == (n : Int)) = true := by simp
    have HS0 : Hid (srch n (okH n L1 L2) (finB L1 L2) 0 pre = if finB L1 L2 pre = true then [pre] else []) := Lib.hid rfl
    have hLl := HH.out.len
    clear hP hI hpre hpl hl hlen
    go_enter Try.func48, Try.ntmps48
    go_wp2
    go_loopw [9] (fun iv wr => ∃ (i : Nat) (v : Off B (fun k => k = bp ∨ D k) W), i ≤ L1.length ∧ iv = .int .i64 i ∧ wr = v.val ∧ Hid (PAt B bp v.val ad cp pre) ∧ Hid (I (ownBlk ad) l v.val) ∧ Hid (∀ j, j < i → img pre (L1.getD j 0) ∈ L2)) (fun iv _ => L1.length - (intOf iv).toNat)
    case atStart => exact ⟨0, v, by omega, rfl, rfl, HP0, HI0, Lib.hid (fun j hj => by omega)⟩
    case round =>
      clear HP0 HI0 c0 qav v
      obtain ⟨i, v, hi, rfl, rfl, HP, HI, HN⟩ := hrel
      have qa1 := HH.out.ca1 v
      by_cases hlt : i < L1.length
      · obtain ⟨be, oe, rfl, hbe, hce⟩ := (HH.out.li v).at (k := i) (by rw [ints_len]; exact hlt)
        have hbm : L1.getD i 0 ∈ L1 := by simp [hlt]
        have hbl := HH.out.lt _ hbm
        have him := Hpm.out.img_lt (L1.getD i 0)
        have x1 : ∀ y : Later v.val.heap.size v.val, y.val.cell? ⟨bs, 0, none⟩ = some (.slice (some ⟨gs, 0, none⟩) (bit n) cs) := fun y => HH.out.cs_ (v.up y)
        have x2 : ∀ y : Later v.val.heap.size v.val, y.val.cell? ⟨ba, 1, none⟩ = some (.slice (some ⟨be, oe, none⟩) L1.length capa) := fun y => HH.out.ca1 (v.up y)
        have x3 : ∀ y : Later v.val.heap.size v.val, y.val.cell? ⟨bp, 0, none⟩ = some (.slice ad n cp) := fun y => by
          have h1 := (HP.out.keep y.below).1.c0
          rwa [HLn.out] at h1
        have x4 : ∀ y : Later v.val.heap.size v.val, y.val.cell? ⟨be, oe + i, none⟩ = some (.int .i64 ((L1.getD i 0 : Nat) : Int)) := fun y => by rw [← ints_getD]; exact hce y i (by rw [ints_len]; exact hlt)
        have x5 : ∀ y : Later v.val.heap.size v.val, y.val.cell? ⟨gs, img pre (L1.getD i 0), none⟩ = some (.int .i64 (cnt (img pre (L1.getD i 0)))) := fun y => HH.out.ts (v.up y) _ him
        have KI : Hid (∀ y : Later v.val.heap.size v.val, Calls Try.prog 30 #[.slice ad n cp, .int .i64 (L1.getD i 0 : Nat)] y.val (Ret v.val.heap.size v.val (.int .i64 (img pre (L1.getD i 0))))) := Lib.hid (fun y => by
          have h1 := c_image y pre (L1.getD i 0) (by rw [HLn.out]; exact hbl) ad cp HP.out.2.reads (fun j hj => by have := Hpm.out.lt j (by rw [HLn.out] at hj; exact hj); omega) (by rw [HLn.out]; exact hn8)
          rwa [HLn.out] at h1)
        have HYes : Hid (cnt (img pre (L1.getD i 0)) ≠ 0 → ∀ j, j < i + 1 → img pre (L1.getD j 0) ∈ L2) := Lib.hid (fun h j hj => by
          by_cases e : j = i
          · subst e
            apply Classical.byContradiction
            intro c
            exact h ((HH.out.cnt0 _ him).2 c)
          · exact HN.out j (by omega))
        have HNo : Hid (cnt (img pre (L1.getD i 0)) = 0 → finB L1 L2 pre = false) := Lib.hid (fun h => decide_eq_false (fun c => (HH.out.cnt0 _ him).1 h (c _ hbm)))
        clear hce hbm hbl
        generalize L1.getD i 0 = bi at *
        generalize img pre bi = im at *
        generalize cnt im = ci at *
        obtain ⟨y, hy⟩ : ∃ y : Later v.val.heap.size v.val, y.val = v.val := ⟨Later.self _, rfl⟩
        go_upto_region 5 with fail
        rw [← hy]
        clear hy qa1
        rcases ieq ci 0 with ⟨hc, e1, e2⟩ | ⟨hc, e1, e2⟩
        · have HF := Lib.hid (HNo.out hc)
          clear HYes HNo hc
          refine wp_region_later y (by kernel_rfl) (by kernel_rfl) (fun _ => ?_)
          repeat (first | go_big_quiet_step (((go_at_call 30; exact (KI.out _)))) | (refine wpQuiet_step (fun K hK => ?_); go_simp; refine ⟨_, fun _ => rfl, ?_⟩; refine hK _ ?_; clear hK K))
          refine wpQuiet_nil ?_
          intro y
          have HPy := Lib.hid (HP.out.keep y.below)
          have HIy := Lib.hid (HDo.out.keep _ _ _ _ _ HI.out (Kept.of y.below) (NewB.refl _ _))
          obtain ⟨v2, hv2⟩ : ∃ v2 : Off B (fun k => k = bp ∨ D k) W, v2.val = y.val := ⟨v.up y, rfl⟩
          rw [← hv2] at HPy HIy ⊢
          clear hv2 x1 x2 x3 x4 x5
          go_wp2
          go_ret
          refine ⟨v2, rfl, ?_, ad, cp, HPy.out, ?_⟩
          · rw [HS0.out, HF.out]; cases on <;> rfl
          · rw [HS0.out, HF.out]; cases on <;> (unfold cutF; simpa using HIy.out)
        · have HN2 := Lib.hid (HYes.out hc)
          clear HYes HNo hc HN
          refine wp_region_later y (by kernel_rfl) (by kernel_rfl) (fun _ => ?_)
          repeat (first | go_big_quiet_step (((go_at_call 30; exact (KI.out _)))) | (refine wpQuiet_step (fun K hK => ?_); go_simp; refine ⟨_, fun _ => rfl, ?_⟩; refine hK _ ?_; clear hK K))
          refine wpQuiet_nil ?_
          intro y
          have HPy := Lib.hid (HP.out.keep y.below)
          have HIy := Lib.hid (HDo.out.keep _ _ _ _ _ HI.out (Kept.of y.below) (NewB.refl _ _))
          obtain ⟨v2, hv2⟩ : ∃ v2 : Off B (fun k => k = bp ∨ D k) W, v2.val = y.val := ⟨v.up y, rfl⟩
          rw [← hv2] at HPy HIy ⊢
          clear hv2 x1 x2 x3 x4 x5
          go_wp2
          go_roundw
          case rel => exact ⟨i + 1, v2, by omega, by go_num, by first | rfl | trivial, HPy, HIy, HN2⟩
          case measure => simp [intOf]; omega
      · have hie : i = L1.length := by omega
        have HF : Hid (finB L1 L2 pre = true) := Lib.hid (decide_eq_true (fun b hb => by
          obtain ⟨j, hj, e⟩ := mem_getDN.1 hb
          rw [← e]; exact HN.out j (by omega)))
        have KD := Lib.hid (HDo.out.call v l pre ad cp Hpm.out Hl.out HP.out HI.out)
        have c0 : v.val.cell? ⟨bp, 0, none⟩ = some (.slice ad n cp) := by rw [← HLn.out]; exact HP.out.1.c0
        have qdv := HH.out.cd v
        rw [HLn.out] at KD
        clear HP HI HDo
        go_wp2_with (first | (refine (KD.out).mono ?_; rintro e _ ⟨rfl, v1, rfl, hP1, hI1⟩) | fail)
        go_ret
        refine ⟨v1, rfl, ?_, ad, cp, hP1, ?_⟩
        · rw [HS0.out, HF.out]; simp
        · rw [HS0.out, HF.out]; unfold cutF; cases on <;> exact hI1
  | succ d ih =>
    intro pre l ad cp v hpre hlen hl hP hI
    have hpl : pre.length < n := by omega
    have IH := Lib.hid ih
    have c0 : v.val.cell? ⟨bp, 0, none⟩ = some (.slice ad pre.length cp) := hP.1.c0
    have qav := HH.out.ca v
    have dd : ((pre.length : Int) == (n : Int)) = false := by rw [beq_eq_false_iff_ne]; omega
    have HP0 := Lib.hid hP
    have HI0 := Lib.hid hI
    have Hpre := Lib.hid hpre
    have Hl := Lib.hid hl
    have hlp : Hid (pre.length + 1 + d = n) := Lib.hid (by omega)
    obtain ⟨i, hi⟩ : ∃ i, i = pre.length := ⟨_, rfl⟩
    have HLi : Hid (pre.length = i) := Lib.hid hi.symm
    rw [← hi] at hpl c0 dd
    clear hP hI hpre hl ih hi hlen
    go_enter Try.func48, Try.ntmps48
    go_wp2
    go_loopw [10] (fun kk wr => ∃ (K : Nat) (v : Off B (fun k => k = bp ∨ D k) W) (ad : Option Addr) (cp : Nat), K ≤ n ∧ kk = .int .i64 K ∧ wr = v.val ∧ Hid (PAt B bp v.val ad cp pre) ∧ Hid (I (ownBlk ad) (l ++ srchTo n (okH n L1 L2) (finB L1 L2) d pre K) v.val) ∧ Hid (on = false → srchTo n (okH n L1 L2) (finB L1 L2) d pre K = [])) (fun kk _ => n - (intOf kk).toNat)
    case atStart => exact ⟨0, v, ad, cp, by omega, by first | rfl | go_num, rfl, HP0, Lib.hid (by rw [show srchTo n (okH n L1 L2) (finB L1 L2) d pre 0 = [] from rfl, List.append_nil]; exact HI0.out), Lib.hid (fun _ => rfl)⟩
    case round =>
      clear HP0 HI0 c0 qav v
      obtain ⟨K, v, ad, cp, hK, rfl, rfl, HP, HI, HNl⟩ := hrel
      have qbv := HH.out.cb v
      by_cases hlt : K < n
      · have HSt := Lib.hid (srchTo_stepO n (okH n L1 L2) (finB L1 L2) d pre K)
        obtain ⟨r1, cp1, hx1, hx2⟩ := HH.out.hx i hpl
        obtain ⟨r2, cp2', hz1, hz2⟩ := HH.out.hz K hlt
        have hax := HH.out.hax (by omega)
        have haz := HH.out.haz (by omega)
        have x1 : ∀ y : Later v.val.heap.size v.val, y.val.cell? ⟨bp, 0, none⟩ = some (.slice ad i cp) := fun y => by rw [← HLi.out]; exact (HP.out.keep y.below).1.c0
        have x2 : ∀ y : Later v.val.heap.size v.val, y.val.cell? ⟨bx, 0, none⟩ = some (.slice (some ⟨gx, 0, none⟩) n cx) := fun y => by rw [← hax]; exact HH.out.cx_ (v.up y)
        have x3 : ∀ y : Later v.val.heap.size v.val, y.val.cell? ⟨bz, 0, none⟩ = some (.slice (some ⟨gz, 0, none⟩) n cz) := fun y => by rw [← haz]; exact HH.out.cz_ (v.up y)
        have x4 : ∀ y : Later v.val.heap.size v.val, y.val.cell? ⟨gx, i, none⟩ = some (.slice (some ⟨r1, 0, none⟩) 10 cp1) := fun y => hx1 (v.up y)
        have x5 : ∀ y : Later v.val.heap.size v.val, y.val.cell? ⟨gz, K, none⟩ = some (.slice (some ⟨r2, 0, none⟩) 10 cp2') := fun y => hz1 (v.up y)
        have KCo : Hid (∀ y : Later v.val.heap.size v.val, Calls Try.prog 23 #[.slice ad i cp, .int .i64 K] y.val (Ret v.val.heap.size v.val (.bool (pre.contains K)))) := Lib.hid (fun y => by
          have h1 := c_contains y (ints pre) (K : Int) ad cp HP.out.2.reads (by rw [ints_len, HLi.out]; omega)
          rw [mem_ints_contains, ints_len, HLi.out] at h1
          exact h1)
        have KEq : Hid (∀ y : Later v.val.heap.size v.val, Calls Try.prog 49 #[.slice (some ⟨r1, 0, none⟩) 10 cp1, .slice (some ⟨r2, 0, none⟩) 10 cp2'] y.val (Ret v.val.heap.size v.val (.bool (okH n L1 L2 pre K)))) := Lib.hid (fun y => c_equalI y 10 (hab n L1 i) (hab n L2 K) _ _ cp1 cp2' (hx2 v) (hz2 v) (by omega) _ (by rw [okH_iff, HLi.out]))
        clear hx1 hx2 hz1 hz2 hax haz
        generalize hct : pre.contains K = ct at *
        have HCt := Lib.hid hct
        clear hct
        generalize hok : okH n L1 L2 pre K = okk at *
        have HOk := Lib.hid hok
        clear hok
        obtain ⟨y, hy⟩ : ∃ y : Later v.val.heap.size v.val, y.val = v.val := ⟨Later.self _, rfl⟩
        go_upto_region 11 with fail
        rw [← hy]
        clear hy qbv
        by_cases hgo : ct = false ∧ okk = true
        case neg =>
          have HE : Hid (srchTo n (okH n L1 L2) (finB L1 L2) d pre (K + 1) = srchTo n (okH n L1 L2) (finB L1 L2) d pre K) := Lib.hid (by rw [HSt.out, if_neg hgo, List.append_nil])
          clear HSt
          cases ct <;> cases okk
          all_goals first | (exfalso; exact hgo ⟨rfl, rfl⟩) | skip
          all_goals
            clear hgo
            refine wp_region_later y (by kernel_rfl) (by kernel_rfl) (fun _ => ?_)
            repeat (first | go_big_quiet_step ((first | (go_at_call 23; exact (KCo.out _)) | (go_at_call 49; exact (KEq.out _)))) | (refine wpQuiet_step (fun K hK => ?_); go_simp; refine ⟨_, fun _ => rfl, ?_⟩; refine hK _ ?_; clear hK K))
            refine wpQuiet_nil ?_
            intro y
            have HPy := Lib.hid (HP.out.keep y.below)
            have HIy := Lib.hid (HDo.out.keep _ _ _ _ _ HI.out (Kept.of y.below) (NewB.refl _ _))
            obtain ⟨v2, hv2⟩ : ∃ v2 : Off B (fun k => k = bp ∨ D k) W, v2.val = y.val := ⟨v.up y, rfl⟩
            rw [← hv2] at HPy HIy ⊢
            clear hv2 x1 x2 x3 x4 x5
            go_wp2
            go_roundw
            case rel => exact ⟨K + 1, v2, ad, cp, by omega, by go_num, by first | rfl | trivial, HPy, Lib.hid (by rw [HE.out]; exact HIy.out), Lib.hid (by rw [HE.out]; exact HNl.out)⟩
            case measure => simp [intOf]; omega
        obtain ⟨rfl, rfl⟩ := hgo
        have HE : Hid (srchTo n (okH n L1 L2) (finB L1 L2) d pre (K + 1) = srchTo n (okH n L1 L2) (finB L1 L2) d pre K ++ srch n (okH n L1 L2) (finB L1 L2) d (pre ++ [K])) := Lib.hid (by rw [HSt.out, if_pos ⟨rfl, rfl⟩])
        refine wp_region_later y (by kernel_rfl) (by kernel_rfl) (fun _ => ?_)
        repeat (first | go_big_quiet_step ((first | (go_at_call 23; exact (KCo.out _)) | (go_at_call 49; exact (KEq.out _)))) | (refine wpQuiet_step (fun K hK => ?_); go_simp; refine ⟨_, fun _ => rfl, ?_⟩; refine hK _ ?_; clear hK K))
        refine wpQuiet_nil ?_
        intro y
        obtain ⟨v2, hv2⟩ : ∃ v2 : Off B (fun k => k = bp ∨ D k) W, v2.val = y.val := ⟨v.up y, rfl⟩
        have HPy : Hid (PAt B bp v2.val ad cp pre) := Lib.hid (by rw [hv2]; exact HP.out.keep y.below)
        have HIy : Hid (I (ownBlk ad) (l ++ srchTo n (okH n L1 L2) (finB L1 L2) d pre K) v2.val) := Lib.hid (by rw [hv2]; exact HDo.out.keep _ _ _ _ _ HI.out (Kept.of y.below) (NewB.refl _ _))
        rw [← hv2]
        clear hv2 x1 x2 x3 x4 x5 HP HI KCo KEq HSt
        have z0 : v2.val.cell? ⟨bp, 0, none⟩ = some (.slice ad i cp) := by rw [← HLi.out]; exact HPy.out.1.c0
        have z1 : ∀ y : Later B v2.val, y.val.cell? ⟨bp, 0, none⟩ = some (.slice ad i cp) := fun y => by rw [y.cell (a := ⟨bp, 0, none⟩) hbp]; exact z0
        have z2 : ∀ y : Later B v2.val, y.val.frozen? ⟨bp, 0, none⟩ = false := fun y => by rw [y.below.frozen (p := ⟨bp, 0, none⟩) hbp]; exact HPy.out.1.frozen
        have hvB := v2.base
        go_upto_region 13 with (first | (at_builtin; refine wpList_pushK (B := B) (W := v2.val) (w := v2.val) bp (Below.refl _ _) hvB rfl _ _ rfl (ints pre) i (by rw [ints_len]; exact HLi.out) ad cp (K : Int) rfl HPy.out.2 rfl (by omega) ?_; intro u2 g2 cp2 hown hkp hnb hbl) | fail)
        obtain ⟨v3, hv3⟩ : ∃ v3 : Off B (fun k => k = bp ∨ D k) W, v3.val = u2.val.setCell ⟨bp, 0, none⟩ (.slice (some ⟨g2, 0, none⟩) (i + 1) cp2) := ⟨(v2.past u2.val hbl).store bp 0 (.inl rfl) _, rfl⟩
        have HP3 : Hid (PAt B bp v3.val (some ⟨g2, 0, none⟩) cp2 (pre ++ [K])) := Lib.hid (by
          have h1 := HPy.out.pushed hbp hbl hown
          rw [HLi.out] at h1
          rw [hv3]; exact h1)
        have HI3 : Hid (I (some g2) (l ++ srchTo n (okH n L1 L2) (finB L1 L2) d pre K) v3.val) := Lib.hid (by
          rw [hv3]
          exact HDo.out.keep _ _ _ _ _ HIy.out (hkp.trans hnb (kept_store _ _ _)) hnb)
        have HSn := Lib.hid (Hpre.out.snoc hlt HCt.out)
        have HLn : Hid ((pre ++ [K]).length = i + 1) := Lib.hid (by rw [List.length_append, HLi.out]; rfl)
        have HTn : Hid (on = false → l ++ srchTo n (okH n L1 L2) (finB L1 L2) d pre K = []) := Lib.hid (fun h => by rw [Hl.out h, HNl.out h]; rfl)
        rw [← hv3]
        clear hv3 hown hkp hnb hbl HPy HIy z0 z1 z2 hvB
        have K1 : Hid (Calls Try.prog 48 #[.pointer (some ⟨bp, 0, none⟩), .pointer (some ⟨ba, 0, none⟩), .pointer (some ⟨bs, 0, none⟩), .pointer (some ⟨bd, 0, none⟩), .pointer (some ⟨bb, 0, none⟩), .pointer (some ⟨bx, 0, none⟩), .pointer (some ⟨bz, 0, none⟩), .pointer (some ⟨bf, 0, none⟩)] v3.val (FromPost B bp W D on I (pre ++ [K]) (l ++ srchTo n (okH n L1 L2) (finB L1 L2) d pre K) (srch n (okH n L1 L2) (finB L1 L2) d (pre ++ [K])))) := Lib.hid (IH.out (pre ++ [K]) (l ++ srchTo n (okH n L1 L2) (finB L1 L2) d pre K) (some ⟨g2, 0, none⟩) cp2 v3 HSn.out (by rw [HLn.out]; have := hlp.out; rw [HLi.out] at this; exact this) HTn.out HP3.out HI3.out)
        have s0 := HH.out.cf v3
        have HSf : Hid (FromPost B bp W D on I pre l (srch n (okH n L1 L2) (finB L1 L2) (d + 1) pre) = FromPost B bp W D on I pre l (srchTo n (okH n L1 L2) (finB L1 L2) d pre n)) := Lib.hid (by rw [srchTo_all])
        clear IH HP3 HI3
        generalize hFd : srch n (okH n L1 L2) (finB L1 L2) d (pre ++ [K]) = Fd at *
        clear hFd
        generalize hTK : srchTo n (okH n L1 L2) (finB L1 L2) d pre K = TK at *
        have HTK := Lib.hid hTK
        clear hTK
        cases hb : (on || Fd.isEmpty)
        · have hon : on = false := by cases on; rfl; cases hb
          subst hon
          have hFn : Fd ≠ [] := by rintro rfl; cases hb
          have HFn := Lib.hid hFn
          have K2 : Hid (Calls Try.prog 48 #[.pointer (some ⟨bp, 0, none⟩), .pointer (some ⟨ba, 0, none⟩), .pointer (some ⟨bs, 0, none⟩), .pointer (some ⟨bd, 0, none⟩), .pointer (some ⟨bb, 0, none⟩), .pointer (some ⟨bx, 0, none⟩), .pointer (some ⟨bz, 0, none⟩), .pointer (some ⟨bf, 0, none⟩)] v3.val (fun e w' => ∃ v4 : Off B (fun k => k = bp ∨ D k) W, e = .returned (.bool false) ∧ w' = v4.val ∧ ∃ ad cp, PAt B bp v4.val ad cp (pre ++ [K]) ∧ I (ownBlk ad) ((l ++ TK) ++ cutF false Fd) v4.val)) := Lib.hid (K1.out.mono (by
            rintro e _ ⟨v4, rfl, rfl, ad4, cp4, h1, h2⟩
            exact ⟨v4, by rw [hb], rfl, ad4, cp4, h1, h2⟩))
          clear K1 hb hFn
          go_upto_region 14 with (first | (go_at_call 48; (with_reducible refine (K2.out).mono ?_); rintro e _ ⟨v5, rfl, rfl, ad4, cp3, hP4, hI4⟩) | fail)
          obtain ⟨g3, hg3⟩ := own_some hP4.2 (by rw [ints_snoc]; simp)
          subst hg3
          have HP5 := Lib.hid hP4
          have HI5 : Hid (I (some g3) ((l ++ TK) ++ cutF false Fd) v5.val) := Lib.hid hI4
          clear hP4 hI4 s0 K2
          have hroom : i + 1 ≤ cp3 := by
            have h1 := HP5.out.2.room
            rw [ints_len, HLn.out] at h1
            exact h1
          have e1 : decide ((i : Int) ≤ (cp3 : Int)) = true := decide_eq_true (by omega)
          have e2 : decide (i ≤ cp3) = true := decide_eq_true (by omega)
          have e3 : i ≤ cp3 := by omega
          have z0 : v5.val.cell? ⟨bp, 0, none⟩ = some (.slice (some ⟨g3, 0, none⟩) (i + 1) cp3) := by
            have h1 := HP5.out.1.c0
            rwa [HLn.out] at h1
          have z2 : v5.val.frozen? ⟨bp, 0, none⟩ = false := HP5.out.1.frozen
          have HP6 : Hid (PAt B bp (v5.val.setCell ⟨bp, 0, none⟩ (.slice (some ⟨g3, 0, none⟩) i cp3)) (some ⟨g3, 0, none⟩) cp3 pre) := Lib.hid (by
            have h1 := HP5.out.cut hbp
            rwa [HLi.out] at h1)
          have w5 : IntKind.i64.wrap (((i + 1 : Nat) : Int) - 1) = (i : Int) := by rw [IntWalk.i64_in _ (by omega)]; omega
          have w6 : IntKind.i64.wrap ((i : Int) + 1 - 1) = (i : Int) := by rw [IntWalk.i64_in _ (by omega)]; omega
          have HI6 : Hid (I (some g3) ((l ++ TK) ++ cutF false Fd) (v5.val.setCell ⟨bp, 0, none⟩ (.slice (some ⟨g3, 0, none⟩) i cp3))) := Lib.hid (HDo.out.keep _ _ _ _ _ HI5.out (kept_store _ _ _) (NewB.refl _ _))
          clear HP5 HI5
          go_wp2
          go_ret
          rw [HSf.out]
          have hT0 : TK = [] := by first | exact HNl.out (by trivial) | (rw [← HTK.out]; exact HNl.out (by trivial))
          have hpre2 : Fd <+: srchTo n (okH n L1 L2) (finB L1 L2) d pre n := by
            have h1 := srchTo_pre (n := n) (ok := okH n L1 L2) (fin := finB L1 L2) (d := d) (p := pre) (K := K + 1) (n - (K + 1))
            rw [show K + 1 + (n - (K + 1)) = n by omega, HE.out, hT0, List.nil_append] at h1
            exact h1
          obtain ⟨t1, t2⟩ := take1_pre hpre2 HFn.out
          refine ⟨v5.store bp 0 (.inl rfl) _, rfl, by rw [t2]; rfl, some ⟨g3, 0, none⟩, cp3, HP6.out, ?_⟩
          have h1 := HI6.out
          rw [hT0, List.append_nil] at h1
          unfold cutF at h1 ⊢
          simp only [Bool.false_eq_true, if_false] at h1 ⊢
          rw [t1]; exact h1
        · have HK2 : Hid (cutF on Fd = Fd ∧ (on = false → Fd = [])) := Lib.hid (by
            cases on
            · have : Fd = [] := by
                cases Fd with
                | nil => rfl
                | cons x y => cases hb
              subst this
              exact ⟨rfl, fun _ => rfl⟩
            · exact ⟨rfl, fun h => by cases h⟩)
          have K2 : Hid (Calls Try.prog 48 #[.pointer (some ⟨bp, 0, none⟩), .pointer (some ⟨ba, 0, none⟩), .pointer (some ⟨bs, 0, none⟩), .pointer (some ⟨bd, 0, none⟩), .pointer (some ⟨bb, 0, none⟩), .pointer (some ⟨bx, 0, none⟩), .pointer (some ⟨bz, 0, none⟩), .pointer (some ⟨bf, 0, none⟩)] v3.val (fun e w' => ∃ v4 : Off B (fun k => k = bp ∨ D k) W, e = .returned (.bool true) ∧ w' = v4.val ∧ ∃ ad cp, PAt B bp v4.val ad cp (pre ++ [K]) ∧ I (ownBlk ad) ((l ++ TK) ++ cutF on Fd) v4.val)) := Lib.hid (K1.out.mono (by
            rintro e _ ⟨v4, rfl, rfl, ad4, cp4, h1, h2⟩
            exact ⟨v4, by rw [hb], rfl, ad4, cp4, h1, h2⟩))
          clear K1 hb
          go_upto_region 14 with (first | (go_at_call 48; (with_reducible refine (K2.out).mono ?_); rintro e _ ⟨v5, rfl, rfl, ad4, cp3, hP4, hI4⟩) | fail)
          obtain ⟨g3, hg3⟩ := own_some hP4.2 (by rw [ints_snoc]; simp)
          subst hg3
          have HP5 := Lib.hid hP4
          have HI5 : Hid (I (some g3) ((l ++ TK) ++ cutF on Fd) v5.val) := Lib.hid hI4
          clear hP4 hI4 s0 K2
          have hroom : i + 1 ≤ cp3 := by
            have h1 := HP5.out.2.room
            rw [ints_len, HLn.out] at h1
            exact h1
          have e1 : decide ((i : Int) ≤ (cp3 : Int)) = true := decide_eq_true (by omega)
          have e2 : decide (i ≤ cp3) = true := decide_eq_true (by omega)
          have e3 : i ≤ cp3 := by omega
          have z0 : v5.val.cell? ⟨bp, 0, none⟩ = some (.slice (some ⟨g3, 0, none⟩) (i + 1) cp3) := by
            have h1 := HP5.out.1.c0
            rwa [HLn.out] at h1
          have z2 : v5.val.frozen? ⟨bp, 0, none⟩ = false := HP5.out.1.frozen
          have HP6 : Hid (PAt B bp (v5.val.setCell ⟨bp, 0, none⟩ (.slice (some ⟨g3, 0, none⟩) i cp3)) (some ⟨g3, 0, none⟩) cp3 pre) := Lib.hid (by
            have h1 := HP5.out.cut hbp
            rwa [HLi.out] at h1)
          have w5 : IntKind.i64.wrap (((i + 1 : Nat) : Int) - 1) = (i : Int) := by rw [IntWalk.i64_in _ (by omega)]; omega
          have w6 : IntKind.i64.wrap ((i : Int) + 1 - 1) = (i : Int) := by rw [IntWalk.i64_in _ (by omega)]; omega
          have HI6 : Hid (I (some g3) (l ++ srchTo n (okH n L1 L2) (finB L1 L2) d pre (K + 1)) (v5.val.setCell ⟨bp, 0, none⟩ (.slice (some ⟨g3, 0, none⟩) i cp3))) := Lib.hid (by
            have h1 := HDo.out.keep _ _ _ _ _ HI5.out (kept_store (b := bp) (o := some g3) v5.val 0 (.slice (some ⟨g3, 0, none⟩) i cp3)) (NewB.refl _ _)
            rw [HE.out]
            rw [HK2.out.1, List.append_assoc] at h1
            exact h1)
          have HN6 : Hid (on = false → srchTo n (okH n L1 L2) (finB L1 L2) d pre (K + 1) = []) := Lib.hid (fun h => by
            have h1 := HNl.out h
            have h2 := HTK.out
            rw [HE.out, HK2.out.2 h, List.append_nil]
            first | exact h1 | (rw [h2]; exact h1) | (rw [← h2]; exact h1))
          clear HP5 HI5
          go_wp2
          go_roundw
          case rel => exact ⟨K + 1, v5.store bp 0 (.inl rfl) _, some ⟨g3, 0, none⟩, cp3, by omega, by go_num, by first | rfl | trivial, HP6, HI6, HN6⟩
          case measure => simp [intOf]; omega
      · have hKn : K = n := by omega
        subst hKn
        have HF : Hid (srchTo K (okH K L1 L2) (finB L1 L2) d pre K = srch K (okH K L1 L2) (finB L1 L2) (d + 1) pre) := Lib.hid (srchTo_all _ _ _ _ _)
        go_wp2
        go_ret
        refine ⟨v, rfl, ?_, ad, cp, HP.out, ?_⟩
        · rw [← HF.out]
          cases on
          · rw [HNl.out (by trivial)]; rfl
          · rfl
        · rw [← HF.out]
          unfold cutF
          cases on
          · have h1 := HI.out
            rw [HNl.out (by trivial)] at h1 ⊢
            exact h1
          · exact HI.out
end Go.Proofs.Ytdcdhdlklppalaa
