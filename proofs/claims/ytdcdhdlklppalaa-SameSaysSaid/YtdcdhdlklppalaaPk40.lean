
/-
  same.each's function value: the search over orders, pruned by ranks.
-/
import Derived.Test.YtdcdhdlklppalaaPk18
import Derived.Test.YtdcdhdlklppalaaPk13
import Derived.Deep.CutRange
import Derived.Deep.CutBlock
import Derived.Deep.RegionHeld3
namespace Go.Proofs.Ytdcdhdlklppalaa
open Go.RowKit
set_option linter.unusedVariables false

/-- all sets of those that are named, with the new one, have the same numbers -/
def okF (X Y : Nat → Nat) (p : List Nat) (k : Nat) : Bool := decide (∀ t, t < bit p.length → X (bit p.length + t) = Y (img (p ++ [k]) (bit p.length + t)))

/-- what the search finds in memory -/
structure EachOk (B bp : Nat) (W : World) (D : Nat → Prop) (n : Nat) (X Y : Nat → Nat) (kf : FuncId) (caps : Array Value) (gx gy cx cy ba bb bd bx bz bf : Nat) : Prop where
  n8 : n ≤ 8
  bW : B ≤ W.heap.size
  hbp : bp < B
  ca : W.cell? ⟨ba, 0, none⟩ = some (.int .i64 n)
  cb : W.cell? ⟨bb, 0, none⟩ = some (.int .i64 n)
  cd : W.cell? ⟨bd, 0, none⟩ = some (.func (.func kf) #[] caps)
  cx_ : W.cell? ⟨bx, 0, none⟩ = some (.slice (some ⟨gx, 0, none⟩) (bit n) cx)
  cz : W.cell? ⟨bz, 0, none⟩ = some (.slice (some ⟨gy, 0, none⟩) (bit n) cy)
  cf : W.cell? ⟨bf, 0, none⟩ = some (.func (.func 58) #[] #[.pointer (some ⟨bp, 0, none⟩), .pointer (some ⟨ba, 0, none⟩), .pointer (some ⟨bd, 0, none⟩), .pointer (some ⟨bb, 0, none⟩), .pointer (some ⟨bx, 0, none⟩), .pointer (some ⟨bz, 0, none⟩), .pointer (some ⟨bf, 0, none⟩)])
  tx : ITab W gx (bit n) (fun j => (X j : Int))
  ty : ITab W gy (bit n) (fun j => (Y j : Int))
  lt : ba < B ∧ bb < B ∧ bd < B ∧ bx < B ∧ bz < B ∧ bf < B ∧ gx < B ∧ gy < B
  off : ∀ k, k = bp ∨ D k → k ≠ ba ∧ k ≠ bb ∧ k ≠ bd ∧ k ≠ bx ∧ k ≠ bz ∧ k ≠ bf ∧ k ≠ gx ∧ k ≠ gy

theorem srchTo_step (n : Nat) (ok : List Nat → Nat → Bool) (fin : List Nat → Bool) (d : Nat) (p : List Nat) (K : Nat) : srchTo n ok fin d p (K + 1) = srchTo n ok fin d p K ++ (if p.contains K = false ∧ ok p K = true then srch n ok fin d (p ++ [K]) else []) := rfl

theorem contains_snoc (p : List Nat) (K k : Nat) : (p ++ [K]).contains k = (p.contains k || decide (K = k)) := by
  rw [Bool.eq_iff_iff, Bool.or_eq_true, List.contains_iff_mem, List.contains_iff_mem, decide_eq_true_eq, List.mem_append, List.mem_singleton]
  constructor
  · rintro (h | h)
    · exact .inl h
    · exact .inr h.symm
  · rintro (h | h)
    · exact .inl h
    · exact .inr h.symm

set_option maxRecDepth 100000 in
set_option maxHeartbeats 20000000 in
theorem c_eachFrom (B bp : Nat) (W : World) (D : Nat → Prop) (n : Nat) (X Y : Nat → Nat) (on : Bool) (kf : FuncId) (caps : Array Value) (I : Option Nat → List (List Nat) → World → Prop) (gx gy cx cy ba bb bd bx bz bf : Nat)
    (H : EachOk B bp W D n X Y kf caps gx gy cx cy ba bb bd bx bz bf) (HD : DoOn B bp W D n on kf caps I) :
    ∀ d (pre : List Nat) (used : Nat) (l : List (List Nat)) (ad : Option Addr) (cp : Nat) (v : Off B (fun k => k = bp ∨ D k) W), Pre n pre → pre.length + d = n → used < 256 → (∀ k, k < 8 → used.testBit k = pre.contains k) → (on = false → l = []) → PAt B bp v.val ad cp pre → I (ownBlk ad) l v.val →
    Calls Try.prog 58 #[.int .i64 used, .pointer (some ⟨bp, 0, none⟩), .pointer (some ⟨ba, 0, none⟩), .pointer (some ⟨bd, 0, none⟩), .pointer (some ⟨bb, 0, none⟩), .pointer (some ⟨bx, 0, none⟩), .pointer (some ⟨bz, 0, none⟩), .pointer (some ⟨bf, 0, none⟩)] v.val (FromPost B bp W D on I pre l (srch n (okF X Y) (fun _ => true) d pre)) := by
  have hn8 := H.n8
  have hbn := bit_le n hn8
  have qa : ∀ v : Off B (fun k => k = bp ∨ D k) W, v.val.cell? ⟨ba, 0, none⟩ = some (.int .i64 n) := fun v => by rw [v.cell H.lt.1 (fun c => (H.off _ c).1 rfl)]; exact H.ca
  have qb : ∀ v : Off B (fun k => k = bp ∨ D k) W, v.val.cell? ⟨bb, 0, none⟩ = some (.int .i64 n) := fun v => by rw [v.cell H.lt.2.1 (fun c => (H.off _ c).2.1 rfl)]; exact H.cb
  have qd : ∀ v : Off B (fun k => k = bp ∨ D k) W, v.val.cell? ⟨bd, 0, none⟩ = some (.func (.func kf) #[] caps) := fun v => by rw [v.cell H.lt.2.2.1 (fun c => (H.off _ c).2.2.1 rfl)]; exact H.cd
  have qx : ∀ v : Off B (fun k => k = bp ∨ D k) W, v.val.cell? ⟨bx, 0, none⟩ = some (.slice (some ⟨gx, 0, none⟩) (bit n) cx) := fun v => by rw [v.cell H.lt.2.2.2.1 (fun c => (H.off _ c).2.2.2.1 rfl)]; exact H.cx_
  have qz : ∀ v : Off B (fun k => k = bp ∨ D k) W, v.val.cell? ⟨bz, 0, none⟩ = some (.slice (some ⟨gy, 0, none⟩) (bit n) cy) := fun v => by rw [v.cell H.lt.2.2.2.2.1 (fun c => (H.off _ c).2.2.2.2.1 rfl)]; exact H.cz
  have qf : ∀ v : Off B (fun k => k = bp ∨ D k) W, v.val.cell? ⟨bf, 0, none⟩ = some (.func (.func 58) #[] #[.pointer (some ⟨bp, 0, none⟩), .pointer (some ⟨ba, 0, none⟩), .pointer (some ⟨bd, 0, none⟩), .pointer (some ⟨bb, 0, none⟩), .pointer (some ⟨bx, 0, none⟩), .pointer (some ⟨bz, 0, none⟩), .pointer (some ⟨bf, 0, none⟩)]) := fun v => by rw [v.cell H.lt.2.2.2.2.2.1 (fun c => (H.off _ c).2.2.2.2.2.1 rfl)]; exact H.cf
  have qtx : ∀ (v : Off B (fun k => k = bp ∨ D k) W) (j : Nat), j < bit n → v.val.cell? ⟨gx, j, none⟩ = some (.int .i64 (X j : Int)) := fun v j hj => (v.tab H.tx H.lt.2.2.2.2.2.2.1 (fun c => (H.off _ c).2.2.2.2.2.2.1 rfl)).cell hj
  have qty : ∀ (v : Off B (fun k => k = bp ∨ D k) W) (j : Nat), j < bit n → v.val.cell? ⟨gy, j, none⟩ = some (.int .i64 (Y j : Int)) := fun v j hj => (v.tab H.ty H.lt.2.2.2.2.2.2.2 (fun c => (H.off _ c).2.2.2.2.2.2.2 rfl)).cell hj
  have hbp := H.hbp
  have hp1 : ∀ (args : Array Value) (w : World), (callFunc 58 args).run Try.prog w = .ok (.enter 58 args) w := fun _ _ => by kernel_rfl
  have hp2 : ∀ (args : Array Value) (w : World), (callFunc kf args).run Try.prog w = .ok (.enter kf args) w := HD.plain
  have HDo := Lib.hid HD
  clear H HD
  intro d
  induction d with
  | zero =>
    intro pre used l ad cp v hpre hlen hu hub hl hP hI
    have hpl : pre.length = n := by omega
    have KD := Lib.hid (HDo.out.call v l pre ad cp (hpre.pm hpl) hl hP hI)
    have c0 : v.val.cell? ⟨bp, 0, none⟩ = some (.slice ad n cp) := by rw [← hpl]; exact hP.1.c0
    have qav := qa v
    have qdv := qd v
    have dd : ((n : Int) == (n : Int)) = true := by simp
    rw [hpl] at KD
    clear hP hI hub hu HDo
    go_enter Try.func58, Try.ntmps58
    go_wp2_with (first | (refine (KD.out).mono ?_; rintro e _ ⟨rfl, v1, rfl, hP1, hI1⟩) | fail)
    go_ret
    refine ⟨v1, rfl, ?_, ad, cp, hP1, ?_⟩
    · unfold srch; simp
    · unfold srch cutF; cases on <;> exact hI1
  | succ d ih =>
    intro pre used l ad cp v hpre hlen hu hub hl hP hI
    have hpl : pre.length < n := by omega
    have hp8 : pre.length < 8 := by omega
    have IH := Lib.hid ih
    have c0 : v.val.cell? ⟨bp, 0, none⟩ = some (.slice ad pre.length cp) := hP.1.c0
    have qav := qa v
    have qbv := qb v
    have dd : ((pre.length : Int) == (n : Int)) = false := by rw [beq_eq_false_iff_ne]; omega
    have HP0 := Lib.hid hP
    have HI0 := Lib.hid hI
    have Hub := Lib.hid hub
    have Hpre := Lib.hid hpre
    have Hl := Lib.hid hl
    have hlp : Hid (pre.length + 1 + d = n) := Lib.hid (by omega)
    obtain ⟨i, hi⟩ : ∃ i, i = pre.length := ⟨_, rfl⟩
    have HLi : Hid (pre.length = i) := Lib.hid hi.symm
    rw [← hi] at hpl hp8 c0 dd
    have bi := bit_cast i
    have hbi := bit_lt i hp8
    clear hP hI hub hpre hl ih hi hlen
    go_enter Try.func58, Try.ntmps58
    go_wp2
    go_loopw [26] (fun kk wr => ∃ (K : Nat) (v : Off B (fun k => k = bp ∨ D k) W) (ad : Option Addr) (cp : Nat), K ≤ n ∧ kk = .int .i64 K ∧ wr = v.val ∧ Hid (PAt B bp v.val ad cp pre) ∧ Hid (I (ownBlk ad) (l ++ srchTo n (okF X Y) (fun _ => true) d pre K) v.val) ∧ Hid (on = false → srchTo n (okF X Y) (fun _ => true) d pre K = [])) (fun kk _ => n - (intOf kk).toNat)
    case atStart => exact ⟨0, v, ad, cp, by omega, by first | rfl | go_num, rfl, HP0, Lib.hid (by rw [show srchTo n (okF X Y) (fun _ => true) d pre 0 = [] from rfl, List.append_nil]; exact HI0.out), Lib.hid (fun _ => rfl)⟩
    case round =>
      clear HP0 HI0 c0 qav qbv v
      obtain ⟨K, v, ad, cp, hK, rfl, rfl, HP, HI, HNl⟩ := hrel
      by_cases hlt : K < n
      · have hub := Hub.out K (by omega)
        have s1 := shr_and used K hu
        have HSt := Lib.hid (srchTo_step n (okF X Y) (fun _ => true) d pre K)
        rcases btf (used.testBit K) with g1 | g1
        · rw [g1] at s1 hub
          rw [show ((true.toNat : Nat) : Int) = 1 from rfl] at s1
          have HE : Hid (srchTo n (okF X Y) (fun _ => true) d pre (K + 1) = srchTo n (okF X Y) (fun _ => true) d pre K) := Lib.hid (by rw [HSt.out, if_neg (fun h => by rw [← hub] at h; cases h.1), List.append_nil])
          clear HSt hub g1
          go_wp2
          go_roundw
          case rel => exact ⟨K + 1, v, ad, cp, by omega, by go_num, by first | rfl | trivial, HP, Lib.hid (by rw [HE.out]; exact HI.out), Lib.hid (by rw [HE.out]; exact HNl.out)⟩
          case measure => simp [intOf]; omega
        · rw [g1] at s1 hub
          rw [show ((false.toNat : Nat) : Int) = 0 from rfl] at s1
          have HCt : Hid (pre.contains K = false) := Lib.hid hub.symm
          clear hub
          have z0 : v.val.cell? ⟨bp, 0, none⟩ = some (.slice ad i cp) := by rw [← HLi.out]; exact HP.out.1.c0
          have z1 : ∀ y : Later B v.val, y.val.cell? ⟨bp, 0, none⟩ = some (.slice ad i cp) := fun y => by rw [y.cell (a := ⟨bp, 0, none⟩) hbp]; exact z0
          have z2 : ∀ y : Later B v.val, y.val.frozen? ⟨bp, 0, none⟩ = false := fun y => by rw [y.below.frozen (p := ⟨bp, 0, none⟩) hbp]; exact HP.out.1.frozen
          have hvB := v.base
          go_upto_region 9 with (first | (at_builtin; refine wpList_pushK (B := B) (W := v.val) (w := v.val) bp (Below.refl _ _) hvB rfl _ _ rfl (ints pre) i (by rw [ints_len]; exact HLi.out) ad cp (K : Int) rfl HP.out.2 rfl (by omega) ?_; intro u2 g2 cp2 hown hkp hnb hbl) | fail)
          obtain ⟨v3, hv3⟩ : ∃ v3 : Off B (fun k => k = bp ∨ D k) W, v3.val = u2.val.setCell ⟨bp, 0, none⟩ (.slice (some ⟨g2, 0, none⟩) (i + 1) cp2) := ⟨(v.past u2.val hbl).store bp 0 (.inl rfl) _, rfl⟩
          have HP3 : Hid (PAt B bp v3.val (some ⟨g2, 0, none⟩) cp2 (pre ++ [K])) := Lib.hid (by
            have h1 := HP.out.pushed hbp hbl hown
            rw [HLi.out] at h1
            rw [hv3]; exact h1)
          have HI3 : Hid (I (some g2) (l ++ srchTo n (okF X Y) (fun _ => true) d pre K) v3.val) := Lib.hid (by
            rw [hv3]
            exact HDo.out.keep _ _ _ _ _ HI.out (hkp.trans hnb (kept_store _ _ _)) hnb)
          have HSn := Lib.hid (Hpre.out.snoc hlt HCt.out)
          have HLn : Hid ((pre ++ [K]).length = i + 1) := Lib.hid (by rw [List.length_append, HLi.out]; rfl)
          have w1 := IntWalk.i64_in (bit i : Int) (by omega)
          have w2 := IntWalk.i64_in (2 * (bit i : Int)) (by omega)
          have HB2 : Hid (bit i + bit i ≤ bit n) := Lib.hid (by
            have h1 := bit_mono (show i + 1 ≤ n by omega)
            have h2 : bit (i + 1) = bit i + bit i := by unfold bit; rw [Nat.pow_succ]; omega
            omega)
          have HTn : Hid (on = false → l ++ srchTo n (okF X Y) (fun _ => true) d pre K = []) := Lib.hid (fun h => by rw [Hl.out h, HNl.out h]; rfl)
          rw [← hv3]
          clear hv3 hown hkp hnb hbl HP HI z0 z1 z2 hvB s1
          go_wp2
          go_loopw [12, 13] (fun okv sv wr => ∃ (t : Nat) (o : Bool) (v : Off B (fun k => k = bp ∨ D k) W), t ≤ bit i ∧ sv = .int .i64 (bit i + t : Nat) ∧ okv = .bool o ∧ wr = v.val ∧ Hid (PAt B bp v.val (some ⟨g2, 0, none⟩) cp2 (pre ++ [K])) ∧ Hid (I (some g2) (l ++ srchTo n (okF X Y) (fun _ => true) d pre K) v.val) ∧ Hid (o = true → ∀ t', t' < t → X (bit i + t') = Y (img (pre ++ [K]) (bit i + t'))) ∧ Hid (o = false → okF X Y pre K = false)) (fun _ sv _ => 2 * bit i - (intOf sv).toNat)
          case atStart => exact ⟨0, true, v3, by omega, vint (by omega), rfl, rfl, HP3, HI3, Lib.hid (fun _ t ht => by omega), Lib.hid (fun h => by cases h)⟩
          case round =>
            clear HP3 HI3 v3 u2
            obtain ⟨t, o, v, ht, rfl, rfl, rfl, HP, HI, HT, HF⟩ := hrel
            by_cases hgo : o = true ∧ t < bit i
            · obtain ⟨rfl, htl⟩ := hgo
              have HT := Lib.hid (HT.out rfl)
              clear HF
              have hsn : bit i + t < bit n := by have := HB2.out; omega
              have hs8 : bit i + t < 256 := by omega
              have HKo : Hid (X (bit i + t) ≠ Y (img (pre ++ [K]) (bit i + t)) → okF X Y pre K = false) := Lib.hid (fun h => decide_eq_false (fun c => h (by have h2 := c t (by rw [HLi.out]; exact htl); rwa [HLi.out] at h2)))
              have HKy : Hid (X (bit i + t) = Y (img (pre ++ [K]) (bit i + t)) → ∀ t', t' < t + 1 → X (bit i + t') = Y (img (pre ++ [K]) (bit i + t'))) := Lib.hid (fun h t' ht' => by
                by_cases e : t' = t
                · subst e; exact h
                · exact HT.out t' (by omega))
              have him : img (pre ++ [K]) (bit i + t) < bit n := imgTo_lt _ (fun j hj => HSn.out.lt j hj)
              have KM : Hid (∀ y : Later v.val.heap.size v.val, Calls Try.prog 56 #[.slice (some ⟨g2, 0, none⟩) (i + 1) cp2, .int .i64 (bit i + t : Nat)] y.val (Ret v.val.heap.size v.val (.int .i64 (img (pre ++ [K]) (bit i + t))))) := Lib.hid (fun y => by
                have h1 := c_moved y (pre ++ [K]) (bit i + t) hs8 (some ⟨g2, 0, none⟩) cp2 HP.out.2.reads (fun j hj => by have := HSn.out.lt j hj; omega) (by rw [HLn.out]; omega)
                rwa [HLn.out] at h1)
              have x1 : ∀ y : Later v.val.heap.size v.val, y.val.cell? ⟨bx, 0, none⟩ = some (.slice (some ⟨gx, 0, none⟩) (bit n) cx) := fun y => qx (v.up y)
              have x2 : ∀ y : Later v.val.heap.size v.val, y.val.cell? ⟨bz, 0, none⟩ = some (.slice (some ⟨gy, 0, none⟩) (bit n) cy) := fun y => qz (v.up y)
              have x3 : ∀ y : Later v.val.heap.size v.val, y.val.cell? ⟨bp, 0, none⟩ = some (.slice (some ⟨g2, 0, none⟩) (i + 1) cp2) := fun y => by
                have h1 := (HP.out.keep y.below).1.c0
                rwa [HLn.out] at h1
              have x4 : ∀ y : Later v.val.heap.size v.val, y.val.cell? ⟨gx, bit i + t, none⟩ = some (.int .i64 (X (bit i + t) : Int)) := fun y => qtx (v.up y) _ hsn
              have x5 : ∀ y : Later v.val.heap.size v.val, y.val.cell? ⟨gy, img (pre ++ [K]) (bit i + t), none⟩ = some (.int .i64 (Y (img (pre ++ [K]) (bit i + t)) : Int)) := fun y => qty (v.up y) _ him
              have hst2 : bit i + t < 2 * bit i := by omega
              generalize hX : X (bit i + t) = xs at *
              generalize hY : Y (img (pre ++ [K]) (bit i + t)) = ys at *
              generalize img (pre ++ [K]) (bit i + t) = im at *
              clear hX hY
              generalize hsv : bit i + t = sv at *
              have ds : decide ((sv : Int) < 2 * (bit i : Int)) = true := decide_eq_true (by omega)
              have ds2 : decide (sv < 2 * bit i) = true := decide_eq_true (by omega)
              have Hsv := Lib.hid hsv
              clear hsv
              obtain ⟨y, hy⟩ : ∃ y : Later v.val.heap.size v.val, y.val = v.val := ⟨Later.self _, rfl⟩
              go_upto_region 13 with fail
              rw [← hy]
              clear hy ds ds2
              by_cases he : xs = ys
              · have de : ((xs : Int) == (ys : Int)) = true := by rw [beq_iff_eq]; omega
                have de' : (xs == ys) = true := by rw [beq_iff_eq]; exact he
                have HT2 := Lib.hid (HKy.out he)
                clear HKo HKy he HT
                refine wp_region_later y (by kernel_rfl) (by kernel_rfl) (fun _ => ?_)
                repeat (first | go_big_quiet_step (((go_at_call 56; exact (KM.out _)))) | (refine wpQuiet_step (fun K hK => ?_); go_simp; refine ⟨_, fun _ => rfl, ?_⟩; refine hK _ ?_; clear hK K))
                refine wpQuiet_nil ?_
                intro y
                have HPy := Lib.hid (HP.out.keep y.below)
                have HIy := Lib.hid (HDo.out.keep _ _ _ _ _ HI.out (Kept.of y.below) (NewB.refl _ _))
                obtain ⟨v2, hv2⟩ : ∃ v2 : Off B (fun k => k = bp ∨ D k) W, v2.val = y.val := ⟨v.up y, rfl⟩
                rw [← hv2] at HPy HIy ⊢
                clear hv2 x1 x2 x3 x4 x5
                go_wp2
                go_roundw
                case rel => exact ⟨t + 1, true, v2, by omega, vint (by have := Hsv.out; go_num), by first | rfl | trivial, by first | rfl | trivial, HPy, HIy, Lib.hid (fun _ => HT2.out), Lib.hid (fun h => by cases h)⟩
                case measure => have := Hsv.out; simp [intOf]; omega
              · have de : ((xs : Int) == (ys : Int)) = false := by rw [beq_eq_false_iff_ne]; omega
                have de' : (xs == ys) = false := by rw [beq_eq_false_iff_ne]; exact he
                have HF2 := Lib.hid (HKo.out he)
                clear HKo HKy he HT
                refine wp_region_later y (by kernel_rfl) (by kernel_rfl) (fun _ => ?_)
                repeat (first | go_big_quiet_step (((go_at_call 56; exact (KM.out _)))) | (refine wpQuiet_step (fun K hK => ?_); go_simp; refine ⟨_, fun _ => rfl, ?_⟩; refine hK _ ?_; clear hK K))
                refine wpQuiet_nil ?_
                intro y
                have HPy := Lib.hid (HP.out.keep y.below)
                have HIy := Lib.hid (HDo.out.keep _ _ _ _ _ HI.out (Kept.of y.below) (NewB.refl _ _))
                obtain ⟨v2, hv2⟩ : ∃ v2 : Off B (fun k => k = bp ∨ D k) W, v2.val = y.val := ⟨v.up y, rfl⟩
                rw [← hv2] at HPy HIy ⊢
                clear hv2 x1 x2 x3 x4 x5
                go_wp2
                go_roundw
                case rel => exact ⟨t + 1, false, v2, by omega, vint (by have := Hsv.out; go_num), by first | rfl | trivial, by first | rfl | trivial, HPy, HIy, Lib.hid (fun h => by cases h), Lib.hid (fun _ => HF2.out)⟩
                case measure => have := Hsv.out; simp [intOf]; omega
            · have HSf : Hid (FromPost B bp W D on I pre l (srch n (okF X Y) (fun _ => true) (d + 1) pre) = FromPost B bp W D on I pre l (srchTo n (okF X Y) (fun _ => true) d pre n)) := Lib.hid (by rw [srchTo_all])
              generalize hsv : bit i + t = sv at *
              have Hsv := Lib.hid hsv
              cases o
              · have HFk := Lib.hid (HF.out rfl)
                have HE : Hid (srchTo n (okF X Y) (fun _ => true) d pre (K + 1) = srchTo n (okF X Y) (fun _ => true) d pre K) := Lib.hid (by rw [HSt.out, if_neg (fun h => by rw [HFk.out] at h; cases h.2), List.append_nil])
                clear HF HT HSt hgo hsv HSf
                obtain ⟨y, hy⟩ : ∃ y : Later v.val.heap.size v.val, y.val = v.val := ⟨Later.self _, rfl⟩
                rcases nlt sv (2 * bit i) with ⟨hd, ds⟩ | ⟨hd, ds⟩
                all_goals
                  go_upto_region 14 with fail
                  rw [← hy]
                  clear hy
                  refine wp_region_later y (by kernel_rfl) (by kernel_rfl) (fun _ => ?_)
                  repeat (first | go_big_quiet_step ((fail)) | (refine wpQuiet_step (fun K hK => ?_); go_simp; refine ⟨_, fun _ => rfl, ?_⟩; refine hK _ ?_; clear hK K))
                  refine wpQuiet_nil ?_
                  intro y
                  obtain ⟨v5, hv5⟩ : ∃ v5 : Off B (fun k => k = bp ∨ D k) W, v5.val = y.val := ⟨v.up y, rfl⟩
                  have HP5 : Hid (PAt B bp v5.val (some ⟨g2, 0, none⟩) cp2 (pre ++ [K])) := Lib.hid (by rw [hv5]; exact HP.out.keep y.below)
                  have HI5 : Hid (I (some g2) (l ++ srchTo n (okF X Y) (fun _ => true) d pre K) v5.val) := Lib.hid (by rw [hv5]; exact HDo.out.keep _ _ _ _ _ HI.out (Kept.of y.below) (NewB.refl _ _))
                  rw [← hv5]
                  clear hv5 HP HI
                  generalize hg3 : g2 = g3 at *
                  generalize hcp3 : cp2 = cp3 at *
                  clear hg3 hcp3
                  have hroom : i ≤ cp3 := by
                    have h1 := HP5.out.2.room
                    rw [ints_len] at h1
                    simp at h1
                    have := HLi.out
                    omega
                  have e1 : decide ((i : Int) ≤ (cp3 : Int)) = true := decide_eq_true (by omega)
                  have e2 : decide (i ≤ cp3) = true := decide_eq_true (by omega)
                  have z0 : v5.val.cell? ⟨bp, 0, none⟩ = some (.slice (some ⟨g3, 0, none⟩) (i + 1) cp3) := by
                    have h1 := HP5.out.1.c0
                    rwa [HLn.out] at h1
                  have z2 : v5.val.frozen? ⟨bp, 0, none⟩ = false := HP5.out.1.frozen
                  have HP6 : Hid (PAt B bp (v5.val.setCell ⟨bp, 0, none⟩ (.slice (some ⟨g3, 0, none⟩) i cp3)) (some ⟨g3, 0, none⟩) cp3 pre) := Lib.hid (by
                    have h1 := HP5.out.cut hbp
                    rwa [HLi.out] at h1)
                  have HI6 : Hid (I (some g3) (l ++ srchTo n (okF X Y) (fun _ => true) d pre (K + 1)) (v5.val.setCell ⟨bp, 0, none⟩ (.slice (some ⟨g3, 0, none⟩) i cp3))) := Lib.hid (by rw [HE.out]; exact HDo.out.keep _ _ _ _ _ HI5.out (kept_store _ _ _) (NewB.refl _ _))
                  clear HP5 HI5
                  go_wp2
                  go_roundw
                  case rel => exact ⟨K + 1, v5.store bp 0 (.inl rfl) _, some ⟨g3, 0, none⟩, cp3, by omega, by go_num, by first | rfl | trivial, HP6, HI6, Lib.hid (by rw [HE.out]; exact HNl.out)⟩
                  case measure => simp [intOf]; omega
              · have hte : t = bit i := by
                  have : ¬ t < bit i := fun h => hgo ⟨rfl, h⟩
                  omega
                have HOk : Hid (okF X Y pre K = true) := Lib.hid (decide_eq_true (fun t' ht' => by
                  rw [HLi.out] at ht' ⊢
                  exact HT.out rfl t' (by omega)))
                have HE : Hid (srchTo n (okF X Y) (fun _ => true) d pre (K + 1) = srchTo n (okF X Y) (fun _ => true) d pre K ++ srch n (okF X Y) (fun _ => true) d (pre ++ [K])) := Lib.hid (by rw [HSt.out, if_pos ⟨HCt.out, HOk.out⟩])
                have hsv2 : sv = 2 * bit i := by omega
                have ds : decide ((sv : Int) < 2 * (bit i : Int)) = false := decide_eq_false (by omega)
                have ds2 : decide (sv < 2 * bit i) = false := decide_eq_false (by omega)
                have hbk := bit_lt K (by omega)
                have bk := bit_cast K
                have w3 := IntWalk.i64_in (bit K : Int) (by omega)
                have o1 := i64_or used (bit K) (by omega) (by omega)
                have hu2 := or_lt used (bit K) hu (by omega)
                have K1 : Hid (Calls Try.prog 58 #[.int .i64 ((used ||| bit K : Nat) : Int), .pointer (some ⟨bp, 0, none⟩), .pointer (some ⟨ba, 0, none⟩), .pointer (some ⟨bd, 0, none⟩), .pointer (some ⟨bb, 0, none⟩), .pointer (some ⟨bx, 0, none⟩), .pointer (some ⟨bz, 0, none⟩), .pointer (some ⟨bf, 0, none⟩)] v.val.drew (FromPost B bp W D on I (pre ++ [K]) (l ++ srchTo n (okF X Y) (fun _ => true) d pre K) (srch n (okF X Y) (fun _ => true) d (pre ++ [K])))) := Lib.hid (IH.out (pre ++ [K]) (used ||| bit K) (l ++ srchTo n (okF X Y) (fun _ => true) d pre K) (some ⟨g2, 0, none⟩) cp2 v.drew HSn.out (by rw [HLn.out]; have := hlp.out; rw [HLi.out] at this; exact this) hu2 (fun k hk => by rw [or_bit_testBit, Hub.out k hk, contains_snoc]) HTn.out (HP.out.keep (Below.refl _ _).drew) (HDo.out.keep _ _ _ _ _ HI.out (Kept.of (Below.refl _ _).drew) (NewB.refl _ _)))
                have s0 : v.val.drew.cell? ⟨bf, 0, none⟩ = some (.func (.func 58) #[] #[.pointer (some ⟨bp, 0, none⟩), .pointer (some ⟨ba, 0, none⟩), .pointer (some ⟨bd, 0, none⟩), .pointer (some ⟨bb, 0, none⟩), .pointer (some ⟨bx, 0, none⟩), .pointer (some ⟨bz, 0, none⟩), .pointer (some ⟨bf, 0, none⟩)]) := qf v.drew
                clear HF HT HSt hgo hsv IH HP HI
                generalize hub : used ||| bit K = ub at *
                clear hub
                generalize hFd : srch n (okF X Y) (fun _ => true) d (pre ++ [K]) = Fd at *
                clear hFd
                generalize hTK : srchTo n (okF X Y) (fun _ => true) d pre K = TK at *
                have HTK := Lib.hid hTK
                clear hTK
                cases hb : (on || Fd.isEmpty)
                · have hon : on = false := by cases on; rfl; cases hb
                  subst hon
                  have hFn : Fd ≠ [] := by rintro rfl; cases hb
                  have HFn := Lib.hid hFn
                  have K2 : Hid (Calls Try.prog 58 #[.int .i64 (ub : Int), .pointer (some ⟨bp, 0, none⟩), .pointer (some ⟨ba, 0, none⟩), .pointer (some ⟨bd, 0, none⟩), .pointer (some ⟨bb, 0, none⟩), .pointer (some ⟨bx, 0, none⟩), .pointer (some ⟨bz, 0, none⟩), .pointer (some ⟨bf, 0, none⟩)] v.val.drew (fun e w' => ∃ v4 : Off B (fun k => k = bp ∨ D k) W, e = .returned (.bool false) ∧ w' = v4.val ∧ ∃ ad cp, PAt B bp v4.val ad cp (pre ++ [K]) ∧ I (ownBlk ad) ((l ++ TK) ++ cutF false Fd) v4.val)) := Lib.hid (K1.out.mono (by
                    rintro e _ ⟨v4, rfl, rfl, ad4, cp4, h1, h2⟩
                    exact ⟨v4, by rw [hb], rfl, ad4, cp4, h1, h2⟩))
                  clear K1 hb hFn
                  go_upto_region 14 with fail
                  clear ds ds2
                  go_region_held3 (fun w' => w'.cell? ⟨bf, 0, none⟩ = some (.func (.func 58) #[] #[.pointer (some ⟨bp, 0, none⟩), .pointer (some ⟨ba, 0, none⟩), .pointer (some ⟨bd, 0, none⟩), .pointer (some ⟨bb, 0, none⟩), .pointer (some ⟨bx, 0, none⟩), .pointer (some ⟨bz, 0, none⟩), .pointer (some ⟨bf, 0, none⟩)])) (first | exact s0 | exact qf v4) (first | (go_at_call 58; (with_reducible refine (K2.out).mono ?_); rintro e _ ⟨v4, rfl, rfl, ad4, cp4, hP4, hI4⟩))
                  obtain ⟨g3, hg3⟩ := own_some hP4.2 (by rw [ints_snoc]; simp)
                  subst hg3
                  obtain ⟨v5, hv5⟩ : ∃ v5 : Off B (fun k => k = bp ∨ D k) W, v5 = v4 := ⟨_, rfl⟩
                  have HP5 : Hid (PAt B bp v5.val (some ⟨g3, 0, none⟩) cp4 (pre ++ [K])) := Lib.hid (by rw [hv5]; exact hP4)
                  have HI5 : Hid (I (some g3) ((l ++ TK) ++ cutF false Fd) v5.val) := Lib.hid (by rw [hv5]; exact hI4)
                  rw [← hv5]
                  clear hP4 hI4 s0 K2 hv5
                  generalize hcp3 : cp4 = cp3 at *
                  clear hcp3
                  have hroom : i ≤ cp3 := by
                    have h1 := HP5.out.2.room
                    rw [ints_len] at h1
                    simp at h1
                    have := HLi.out
                    omega
                  have e1 : decide ((i : Int) ≤ (cp3 : Int)) = true := decide_eq_true (by omega)
                  have e2 : decide (i ≤ cp3) = true := decide_eq_true (by omega)
                  have z0 : v5.val.cell? ⟨bp, 0, none⟩ = some (.slice (some ⟨g3, 0, none⟩) (i + 1) cp3) := by
                    have h1 := HP5.out.1.c0
                    rwa [HLn.out] at h1
                  have z2 : v5.val.frozen? ⟨bp, 0, none⟩ = false := HP5.out.1.frozen
                  have HP6 : Hid (PAt B bp (v5.val.setCell ⟨bp, 0, none⟩ (.slice (some ⟨g3, 0, none⟩) i cp3)) (some ⟨g3, 0, none⟩) cp3 pre) := Lib.hid (by
                    have h1 := HP5.out.cut hbp
                    rwa [HLi.out] at h1)
                  have HI6 : Hid (I (some g3) ((l ++ TK) ++ cutF false Fd) (v5.val.setCell ⟨bp, 0, none⟩ (.slice (some ⟨g3, 0, none⟩) i cp3))) := Lib.hid (HDo.out.keep _ _ _ _ _ HI5.out (kept_store _ _ _) (NewB.refl _ _))
                  clear HP5 HI5
                  go_wp2
                  go_ret
                  rw [HSf.out]
                  have hT0 : TK = [] := by first | exact HNl.out (by trivial) | (rw [← HTK.out]; exact HNl.out (by trivial))
                  have hpre2 : Fd <+: srchTo n (okF X Y) (fun _ => true) d pre n := by
                    have h1 := srchTo_pre (n := n) (ok := okF X Y) (fin := fun _ => true) (d := d) (p := pre) (K := K + 1) (n - (K + 1))
                    rw [show K + 1 + (n - (K + 1)) = n by omega, HE.out, hT0, List.nil_append] at h1
                    exact h1
                  obtain ⟨t1, t2⟩ := take1_pre hpre2 HFn.out
                  refine ⟨v5.store bp 0 (.inl rfl) _, rfl, by rw [t2]; rfl, some ⟨g3, 0, none⟩, cp3, HP6.out, ?_⟩
                  have h1 := HI6.out
                  rw [hT0, List.append_nil] at h1
                  unfold cutF at h1 ⊢
                  simp only [Bool.false_eq_true, if_false] at h1 ⊢
                  rw [t1]; exact h1
                · have HK2 : Hid (cutF on Fd = Fd ∧ (on = false → Fd = [])) := Lib.hid (by
                    cases on
                    · have : Fd = [] := by
                        cases Fd with
                        | nil => rfl
                        | cons x y => cases hb
                      subst this
                      exact ⟨rfl, fun _ => rfl⟩
                    · exact ⟨rfl, fun h => by cases h⟩)
                  have K2 : Hid (Calls Try.prog 58 #[.int .i64 (ub : Int), .pointer (some ⟨bp, 0, none⟩), .pointer (some ⟨ba, 0, none⟩), .pointer (some ⟨bd, 0, none⟩), .pointer (some ⟨bb, 0, none⟩), .pointer (some ⟨bx, 0, none⟩), .pointer (some ⟨bz, 0, none⟩), .pointer (some ⟨bf, 0, none⟩)] v.val.drew (fun e w' => ∃ v4 : Off B (fun k => k = bp ∨ D k) W, e = .returned (.bool true) ∧ w' = v4.val ∧ ∃ ad cp, PAt B bp v4.val ad cp (pre ++ [K]) ∧ I (ownBlk ad) ((l ++ TK) ++ cutF on Fd) v4.val)) := Lib.hid (K1.out.mono (by
                    rintro e _ ⟨v4, rfl, rfl, ad4, cp4, h1, h2⟩
                    exact ⟨v4, by rw [hb], rfl, ad4, cp4, h1, h2⟩))
                  clear K1 hb
                  go_upto_region 14 with fail
                  clear ds ds2
                  go_region_held3 (fun w' => w'.cell? ⟨bf, 0, none⟩ = some (.func (.func 58) #[] #[.pointer (some ⟨bp, 0, none⟩), .pointer (some ⟨ba, 0, none⟩), .pointer (some ⟨bd, 0, none⟩), .pointer (some ⟨bb, 0, none⟩), .pointer (some ⟨bx, 0, none⟩), .pointer (some ⟨bz, 0, none⟩), .pointer (some ⟨bf, 0, none⟩)])) (first | exact s0 | exact qf v4) (first | (go_at_call 58; (with_reducible refine (K2.out).mono ?_); rintro e _ ⟨v4, rfl, rfl, ad4, cp4, hP4, hI4⟩))
                  obtain ⟨g3, hg3⟩ := own_some hP4.2 (by rw [ints_snoc]; simp)
                  subst hg3
                  obtain ⟨v5, hv5⟩ : ∃ v5 : Off B (fun k => k = bp ∨ D k) W, v5 = v4 := ⟨_, rfl⟩
                  have HP5 : Hid (PAt B bp v5.val (some ⟨g3, 0, none⟩) cp4 (pre ++ [K])) := Lib.hid (by rw [hv5]; exact hP4)
                  have HI5 : Hid (I (some g3) ((l ++ TK) ++ cutF on Fd) v5.val) := Lib.hid (by rw [hv5]; exact hI4)
                  rw [← hv5]
                  clear hP4 hI4 s0 K2 hv5
                  generalize hcp3 : cp4 = cp3 at *
                  clear hcp3
                  have hroom : i ≤ cp3 := by
                    have h1 := HP5.out.2.room
                    rw [ints_len] at h1
                    simp at h1
                    have := HLi.out
                    omega
                  have e1 : decide ((i : Int) ≤ (cp3 : Int)) = true := decide_eq_true (by omega)
                  have e2 : decide (i ≤ cp3) = true := decide_eq_true (by omega)
                  have z0 : v5.val.cell? ⟨bp, 0, none⟩ = some (.slice (some ⟨g3, 0, none⟩) (i + 1) cp3) := by
                    have h1 := HP5.out.1.c0
                    rwa [HLn.out] at h1
                  have z2 : v5.val.frozen? ⟨bp, 0, none⟩ = false := HP5.out.1.frozen
                  have HP6 : Hid (PAt B bp (v5.val.setCell ⟨bp, 0, none⟩ (.slice (some ⟨g3, 0, none⟩) i cp3)) (some ⟨g3, 0, none⟩) cp3 pre) := Lib.hid (by
                    have h1 := HP5.out.cut hbp
                    rwa [HLi.out] at h1)
                  have HI6 : Hid (I (some g3) (l ++ srchTo n (okF X Y) (fun _ => true) d pre (K + 1)) (v5.val.setCell ⟨bp, 0, none⟩ (.slice (some ⟨g3, 0, none⟩) i cp3))) := Lib.hid (by
                    have h1 := HDo.out.keep _ _ _ _ _ HI5.out (kept_store (b := bp) (o := some g3) v5.val 0 (.slice (some ⟨g3, 0, none⟩) i cp3)) (NewB.refl _ _)
                    rw [HE.out]
                    rw [HK2.out.1, List.append_assoc] at h1
                    exact h1)
                  have HN6 : Hid (on = false → srchTo n (okF X Y) (fun _ => true) d pre (K + 1) = []) := Lib.hid (fun h => by
                    have h1 := HNl.out h
                    have h2 := HTK.out
                    rw [HE.out, HK2.out.2 h, List.append_nil]
                    first | exact h1 | (rw [h2]; exact h1) | (rw [← h2]; exact h1))
                  clear HP5 HI5
                  go_wp2
                  go_roundw
                  case rel => exact ⟨K + 1, v5.store bp 0 (.inl rfl) _, some ⟨g3, 0, none⟩, cp3, by omega, by go_num, by first | rfl | trivial, HP6, HI6, HN6⟩
                  case measure => simp [intOf]; omega
      · have hKn : K = n := by omega
        subst hKn
        have HF : Hid (srchTo K (okF X Y) (fun _ => true) d pre K = srch K (okF X Y) (fun _ => true) (d + 1) pre) := Lib.hid (srchTo_all _ _ _ _ _)
        have qbv := qb v
        go_wp2
        go_ret
        refine ⟨v, rfl, ?_, ad, cp, HP.out, ?_⟩
        · rw [← HF.out]
          cases on
          · rw [HNl.out rfl]; rfl
          · rfl
        · rw [← HF.out]
          unfold cutF
          cases on
          · have h1 := HI.out
            rw [HNl.out rfl] at h1 ⊢
            exact h1
          · exact HI.out
end Go.Proofs.Ytdcdhdlklppalaa
