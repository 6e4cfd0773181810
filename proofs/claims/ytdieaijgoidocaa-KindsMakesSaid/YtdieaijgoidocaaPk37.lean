
/-
  The named matroids, reckoned both ways.
  hall.Check, rotaref.Lists, rotaref.Several.
  rotalaw.KindsMakes, where the functions and the references answer one and the same.
-/
import Derived.Test.YtdieaijgoidocaaPk36
import Derived.Deep.CutRange
import Derived.Deep.CutBlock
import Derived.Test.YtdieaijgoidocaaPk13
import Derived.IntWalk
import Derived.Test.YtdieaijgoidocaaPk12
import Derived.Test.YtdieaijgoidocaaPk24
namespace Go.Proofs.Ytdieaijgoidocaa
open Go.RowKit
set_option linter.unusedVariables false

theorem named_fano : sans 3 7 [11, 22, 44, 88, 49, 98, 69] = ints (those 7 (fanB 7)) := by decide +kernel
theorem named_nonf : sans 3 7 [11, 22, 44, 88, 49, 98] = ints (those 7 (fanB 6)) := by decide +kernel
theorem named_k4 : ints (biggest (those 6 (forB 4 eK4))) = ints (those 6 (ofRank 6 (fun s => ((4 : Nat) : Int) - (rz 4 eK4 s : Int)))) := by decide +kernel
theorem named_vam : sans 4 8 [15, 51, 60, 195, 204] = ints (those 8 vamB) := by decide +kernel

/-- both answer one and the same -/
theorem named_same (t : ByteArray) : ∃ (e n' : Int) (ok : Bool) (xs' : List Int), NamIs t e n' xs' ∧ NamR t ok n' xs' ∧ e = errno ok 6 ∧ xs'.length ≤ 1048576 ∧ (e ≠ 0 → n' = 0 ∧ xs' = []) := by
  have l1 : (sans 3 7 [11, 22, 44, 88, 49, 98, 69]).length ≤ 1048576 := by decide +kernel
  have l2 : (sans 3 7 [11, 22, 44, 88, 49, 98]).length ≤ 1048576 := by decide +kernel
  have l3 : (ints (biggest (those 6 (forB 4 eK4)))).length ≤ 1048576 := by decide +kernel
  have l4 : (sans 4 8 [15, 51, 60, 195, 204]).length ≤ 1048576 := by decide +kernel
  by_cases c1 : t.toList = sFano
  · refine ⟨0, 7, true, _, ⟨fun _ => ⟨rfl, rfl, rfl⟩, fun h => ?_, fun h => ?_, fun h => ?_, fun h => absurd c1 h⟩, ⟨fun _ => ⟨rfl, rfl, named_fano⟩, fun h => ?_, fun h => ?_, fun h => ?_, fun h => absurd c1 h⟩, rfl, l1, fun h => absurd rfl h⟩ <;> (rw [c1] at h; exact absurd h (by decide))
  by_cases c2 : t.toList = sNonf
  · refine ⟨0, 7, true, _, ⟨fun h => ?_, fun _ => ⟨rfl, rfl, rfl⟩, fun h => ?_, fun h => ?_, fun _ h => absurd c2 h⟩, ⟨fun h => ?_, fun _ => ⟨rfl, rfl, named_nonf⟩, fun h => ?_, fun h => ?_, fun _ h => absurd c2 h⟩, rfl, l2, fun h => absurd rfl h⟩ <;> (rw [c2] at h; exact absurd h (by decide))
  by_cases c3 : t.toList = sK4
  · refine ⟨0, 6, true, _, ⟨fun h => ?_, fun h => ?_, fun _ => ⟨rfl, rfl, rfl⟩, fun h => ?_, fun _ _ h => absurd c3 h⟩, ⟨fun h => ?_, fun h => ?_, fun _ => ⟨rfl, rfl, named_k4⟩, fun h => ?_, fun _ _ h => absurd c3 h⟩, rfl, l3, fun h => absurd rfl h⟩ <;> (rw [c3] at h; exact absurd h (by decide))
  by_cases c4 : t.toList = sVam
  · refine ⟨0, 8, true, _, ⟨fun h => ?_, fun h => ?_, fun h => ?_, fun _ => ⟨rfl, rfl, rfl⟩, fun _ _ _ h => absurd c4 h⟩, ⟨fun h => ?_, fun h => ?_, fun h => ?_, fun _ => ⟨rfl, rfl, named_vam⟩, fun _ _ _ h => absurd c4 h⟩, rfl, l4, fun h => absurd rfl h⟩ <;> (rw [c4] at h; exact absurd h (by decide))
  · exact ⟨6, 0, false, [], ⟨fun h => absurd h c1, fun h => absurd h c2, fun h => absurd h c3, fun h => absurd h c4, fun _ _ _ _ => ⟨rfl, rfl, rfl⟩⟩, ⟨fun h => absurd h c1, fun h => absurd h c2, fun h => absurd h c3, fun h => absurd h c4, fun _ _ _ _ => ⟨rfl, rfl, rfl⟩⟩, rfl, by decide, fun _ => ⟨rfl, rfl⟩⟩

end Go.Proofs.Ytdieaijgoidocaa

namespace Go.Proofs.Ytdieaijgoidocaa
open Go.RowKit
set_option linter.unusedVariables false

/-- a list of sets of n elements -/
def okL (n : Int) (l : List Int) : Prop := 0 ≤ n ∧ n ≤ 8 ∧ ∀ i, i < l.length → isSet n (l.getD i 0)
/-- what the check of a list of sets answers -/
def LisIs (n : Int) (l : List Int) (e : Int) : Prop := (¬ okL n l → e = 1) ∧ (okL n l → 8 < l.length → e = 2) ∧ (okL n l → l.length ≤ 8 → e = 0)
theorem LisIs.ex (n : Int) (l : List Int) : ∃ e, LisIs n l e := by
  by_cases h : okL n l
  · by_cases g : l.length ≤ 8
    · exact ⟨0, fun x => absurd h x, fun _ x => by omega, fun _ _ => rfl⟩
    · exact ⟨2, fun x => absurd h x, fun _ _ => rfl, fun _ x => absurd x g⟩
  · exact ⟨1, fun _ => rfl, fun x => absurd x h, fun x => absurd x h⟩
theorem LisIs.zero {n : Int} {l : List Int} (h : LisIs n l 0) : okL n l ∧ l.length ≤ 8 := by
  by_cases hk : okL n l
  · by_cases g : l.length ≤ 8
    · exact ⟨hk, g⟩
    · have := h.2.1 hk (by omega); omega
  · have := h.1 hk; omega

set_option maxRecDepth 100000 in
set_option maxHeartbeats 4000000 in
theorem c_lists {B : Nat} {W : World} (u : Later B W) (n : Int) (l : List Int) (a : Option Addr) (cap : Nat) (e : Int) (h : IntsAt B W a l) (hlen : l.length ≤ 4611686018427387904) (he : LisIs n l e) :
    Calls Try.prog 4 #[.int .i64 n, .slice a l.length cap] u.val (Ret B W (.int .i64 e)) := by
  have HI := Lib.hid h
  have HE := Lib.hid he
  clear h he
  by_cases h1 : n < 0
  · have e1 := HE.out.1 (fun h => by have := h.1; omega)
    subst e1
    have d1 : decide (n < 0) = true := decide_eq_true h1
    go_enter Try.func4, Try.ntmps4
    go_wp2
    go_ret
    exact Ret.mk u rfl
  have d1 : decide (n < 0) = false := decide_eq_false h1
  by_cases h2 : 8 < n
  · have e1 := HE.out.1 (fun h => by have := h.2.1; omega)
    subst e1
    have d2 : decide ((8 : Int) < n) = true := decide_eq_true h2
    go_enter Try.func4, Try.ntmps4
    go_wp2
    go_ret
    exact Ret.mk u rfl
  have d2 : decide ((8 : Int) < n) = false := decide_eq_false h2
  have KS := Lib.hid (fun (v : Later B W) (s : Int) => c_isSet v n s)
  have hn : 0 ≤ n ∧ n ≤ 8 := by omega
  have HNn := Lib.hid hn
  clear h1 h2 hn
  go_enter Try.func4, Try.ntmps4
  go_wp2
  clear d1 d2
  go_loopw [5] (fun i wr => ∃ (k : Nat) (v : Later B W), k ≤ l.length ∧ i = .int .i64 k ∧ wr = v.val ∧ Hid (∀ i, i < k → isSet n (l.getD i 0))) (fun i _ => l.length - (intOf i).toNat)
  case atStart => exact ⟨0, u, by omega, rfl, rfl, Lib.hid (fun i hi => by omega)⟩
  case round =>
    obtain ⟨k, v, hk, rfl, rfl, HK⟩ := hrel
    by_cases hlt : k < l.length
    · obtain ⟨bb, off, rfl, hbB, hcell⟩ := HI.out.at (k := k) hlt
      have c0 := hcell v k hlt
      have HNx : Hid (isSet n (l.getD k 0) → ∀ i, i < k + 1 → isSet n (l.getD i 0)) := Lib.hid (fun h i hi => by
        by_cases c : i = k
        · subst c; exact h
        · exact HK.out i (by omega))
      have HBd : Hid (¬ isSet n (l.getD k 0) → e = 1) := Lib.hid (fun h => HE.out.1 (fun g => h (g.2.2 k hlt)))
      clear hcell HK
      generalize l.getD k 0 = x at *
      by_cases g : isSet n x
      · have K1 := Lib.hid (fun v => dcall_t (KS.out v x) g)
        have HN := Lib.hid (HNx.out g)
        clear g HNx HBd
        go_wp2_with (first | (go_at_call 13; ((with_reducible refine (K1.out _).mono ?_); rintro e _ ⟨rfl, v2, rfl⟩)))
        go_roundw
        case rel => exact ⟨k+1, v2, by omega, by go_num, rfl, HN⟩
        case measure => simp [intOf]; omega
      · have K1 := Lib.hid (fun v => dcall_f (KS.out v x) g)
        have e1 := HBd.out g
        subst e1
        clear g HNx HBd
        go_wp2_with (first | (go_at_call 13; ((with_reducible refine (K1.out _).mono ?_); rintro e _ ⟨rfl, v2, rfl⟩)))
        go_ret
        exact Ret.mk v2 rfl
    · have HOk : Hid (okL n l) := Lib.hid ⟨HNn.out.1, HNn.out.2, fun i hi => HK.out i (by omega)⟩
      clear HK
      by_cases h8 : l.length ≤ 8
      · have e1 := HE.out.2.2 HOk.out h8
        subst e1
        have d1 : decide ((8 : Int) < (l.length : Int)) = false := decide_eq_false (by omega)
        have d2 : decide (8 < l.length) = false := decide_eq_false (by omega)
        go_wp2
        go_ret
        exact Ret.mk v rfl
      · have e1 := HE.out.2.1 HOk.out (by omega)
        subst e1
        have d1 : decide ((8 : Int) < (l.length : Int)) = true := decide_eq_true (by omega)
        have d2 : decide (8 < l.length) = true := decide_eq_true (by omega)
        go_wp2
        go_ret
        exact Ret.mk v rfl

/-- several sets of a list together -/
def sevTo (ls : List Nat) (s : Nat) : Nat → Nat
  | 0 => 0
  | k + 1 => if s.testBit k = true then sevTo ls s k ||| ls.getD k 0 else sevTo ls s k
theorem sevTo_lt {ls : List Nat} {m : Nat} (h : ∀ k, k < ls.length → ls.getD k 0 < bit m) (s : Nat) {k : Nat} (hk : k ≤ ls.length) : sevTo ls s k < bit m := by
  induction k with
  | zero => show 0 < 2 ^ m; exact Nat.pow_pos (by decide)
  | succ k ih =>
    unfold sevTo
    split
    · exact Nat.or_lt_two_pow (ih (by omega)) (h k (by omega))
    · exact ih (by omega)
def sev (ls : List Nat) (s : Nat) : Nat := sevTo ls s ls.length

end Go.Proofs.Ytdieaijgoidocaa

namespace Go.Proofs.Ytdieaijgoidocaa
open Go.RowKit
set_option linter.unusedVariables false

/-- a matroid in a box -/
def BM (w : World) (g : Nat) (n : Int) (ad : Option Addr) (cp : Nat) (xs : List Int) : Prop := RowL w g 26 [.int .i64 n, .slice ad xs.length cp] ∧ IntsAt w.heap.size w ad xs
theorem BM.bel {w w' : World} {g : Nat} {n : Int} {ad : Option Addr} {cp : Nat} {xs : List Int} (h : BM w g n ad cp xs) (hb : Bel w w') : BM w' g n ad cp xs := by
  obtain ⟨v, rfl⟩ := hb.later
  exact ⟨h.1.keep v.below, h.2.to v⟩
theorem BM.new {B : Nat} {w : World} {n : Int} {ad : Option Addr} {cp : Nat} {xs : List Int} (h : Own B w ad cp xs) : BM (w.alloc (.cells #[.int .i64 n, .slice ad xs.length cp] 26)) w.heap.size n ad cp xs :=
  ⟨RowL.new w 26 [.int .i64 n, .slice ad xs.length cp], h.reads.to ((Later.self w).alloc _)⟩
theorem belTrans {a b c : World} (h : Bel a b) (k : Bel b c) : Bel a c := ⟨h.1.trans (k.1.mono h.2), Nat.le_trans h.2 k.2⟩
/-- the state behind the first branch -/
def KmS1 (V : World) (g : Nat) (n : Int) (xs : List Int) (w : World) : Prop := Bel V w ∧ ∃ ad cp, BM w g n ad cp xs

set_option maxRecDepth 100000 in
set_option maxHeartbeats 16000000 in
theorem law_km {B : Nat} {W : World} (u : Later B W) (n : Int) (l mo : List Int) (t : ByteArray) (a b : Option Addr) (cap capb : Nat) (e f g nA nL nN : Int) (ok : Bool) (xA xL xN : List Int)
    (hi : IntsAt B W a l) (hj : IntsAt B W b mo) (hlen : l.length ≤ 4611686018427387904) (he : LisIs n l e)
    (zA : ZIf e nA xA) (zL : ZIf f nL xL) (zN : ZIf g nN xN) (lA : xA.length ≤ 4611686018427387904) (lL : xL.length ≤ 4611686018427387904) (lN : xN.length ≤ 4611686018427387904) (hg : g = errno ok 6)
    (pT : ∀ (B : Nat) (W : World) (v : Later B W), IntsAt B W a l → Calls Try.prog 8 #[.int .i64 n, .slice a l.length cap] v.val (RetP B W (MatTO B nA xA e)))
    (rT : e = 0 → ∀ (B : Nat) (W : World) (v : Later B W), IntsAt B W a l → Calls Try.prog 5 #[.int .i64 n, .slice a l.length cap] v.val (RetP B W (MatO B nA xA)))
    (pL : ∀ (B : Nat) (W : World) (v : Later B W), IntsAt B W a l → IntsAt B W b mo → Calls Try.prog 9 #[.int .i64 n, .slice a l.length cap, .slice b mo.length capb] v.val (RetP B W (MatTO B nL xL f)))
    (rL : ∀ (B : Nat) (W : World) (v : Later B W), IntsAt B W a l → IntsAt B W b mo → Calls Try.prog 6 #[.int .i64 n, .slice a l.length cap, .slice b mo.length capb] v.val (RetP B W (MatTO B nL xL f)))
    (pN : ∀ (B : Nat) (W : World) (v : Later B W), Calls Try.prog 10 #[.string t] v.val (RetP B W (MatTO B nN xN g)))
    (rN : ∀ (B : Nat) (W : World) (v : Later B W), Calls Try.prog 7 #[.string t] v.val (RetP B W (MatTB B nN xN ok))) :
    Calls Try.prog 3 #[.int .i64 n, .slice a l.length cap, .slice b mo.length capb, .string t] u.val (Ret B W (.bool true)) := by
  have hB := u.size
  obtain ⟨V, hV⟩ : ∃ V, V = u.val := ⟨_, rfl⟩
  have HI : Hid (IntsAt V.heap.size V a l) := Lib.hid (by rw [hV]; exact hi.to u)
  have HJ : Hid (IntsAt V.heap.size V b mo) := Lib.hid (by rw [hV]; exact hj.to u)
  have HU : Hid (∀ w, Bel V w → ∃ w' : Later B W, w'.val = w) := Lib.hid (fun w h => by
    subst hV
    obtain ⟨v, rfl⟩ := h.later
    exact ⟨u.up v, rfl⟩)
  have T1 : Hid (∀ w, Bel V w → IntsAt w.heap.size w a l) := Lib.hid (fun w h => by obtain ⟨v, rfl⟩ := h.later; exact HI.out.to v)
  have T2 : Hid (∀ w, Bel V w → IntsAt w.heap.size w b mo) := Lib.hid (fun w h => by obtain ⟨v, rfl⟩ := h.later; exact HJ.out.to v)
  have K0 : Hid (Calls Try.prog 4 #[.int .i64 n, .slice a l.length cap] V (Ret V.heap.size V (.int .i64 e))) := Lib.hid (c_lists (Later.self V) n l a cap e HI.out hlen he)
  have PT : Hid (∀ w, Bel V w → Calls Try.prog 8 #[.int .i64 n, .slice a l.length cap] w (RetP w.heap.size w (MatTO w.heap.size nA xA e))) := Lib.hid (fun w (h : Bel V w) => pT _ _ (Later.self w) (T1.out w h))
  have RT : Hid (e = 0 → ∀ w, Bel V w → Calls Try.prog 5 #[.int .i64 n, .slice a l.length cap] w (RetP w.heap.size w (MatO w.heap.size nA xA))) := Lib.hid (fun (c : e = 0) w (h : Bel V w) => rT c _ _ (Later.self w) (T1.out w h))
  have PL : Hid (∀ w, Bel V w → Calls Try.prog 9 #[.int .i64 n, .slice a l.length cap, .slice b mo.length capb] w (RetP w.heap.size w (MatTO w.heap.size nL xL f))) := Lib.hid (fun w (h : Bel V w) => pL _ _ (Later.self w) (T1.out w h) (T2.out w h))
  have RL : Hid (∀ w, Bel V w → Calls Try.prog 6 #[.int .i64 n, .slice a l.length cap, .slice b mo.length capb] w (RetP w.heap.size w (MatTO w.heap.size nL xL f))) := Lib.hid (fun w (h : Bel V w) => rL _ _ (Later.self w) (T1.out w h) (T2.out w h))
  have PN : Hid (∀ w : World, Calls Try.prog 10 #[.string t] w (RetP w.heap.size w (MatTO w.heap.size nN xN g))) := Lib.hid (fun w => pN _ _ (Later.self w))
  have RN : Hid (∀ w : World, Calls Try.prog 7 #[.string t] w (RetP w.heap.size w (MatTB w.heap.size nN xN ok))) := Lib.hid (fun w => rN _ _ (Later.self w))
  have HZ := Lib.hid (And.intro zA (And.intro zL zN))
  have HL := Lib.hid (And.intro lA (And.intro lL lN))
  have HG := Lib.hid hg
  clear hi hj he zA zL zN lA lL lN hg pT rT pL rL pN rN hlen
  rw [← hV]
  clear hV
  go_enter Try.func3, Try.ntmps3
  go_upto_region 3 with (first | (go_at_call 4; (with_reducible refine (K0.out).mono ?_); rintro e _ ⟨rfl, v1, rfl⟩) | fail)
  have hR0 : Hid (RowL (v1.val.alloc (.cells #[.int .i64 0, .slice none 0 0] 26)) v1.val.heap.size 26 [.int .i64 0, .slice none 0 0]) := Lib.hid (RowL.new _ _ _)
  have hbz0 : Bel V (v1.val.alloc (.cells #[.int .i64 0, .slice none 0 0] 26)) := (Bel.of v1).alloc _
  have hgV : V.heap.size ≤ v1.val.heap.size := v1.size
  have hgZ : v1.val.heap.size < (v1.val.alloc (.cells #[.int .i64 0, .slice none 0 0] 26)).heap.size := by simp
  generalize v1.val.heap.size = g1 at *
  generalize (v1.val.alloc (.cells #[.int .i64 0, .slice none 0 0] 26)) = Z at *
  clear v1 K0
  have HS0 : Hid (e ≠ 0 → KmS1 V g1 nA xA Z) := Lib.hid (fun c => by
    obtain ⟨h1, h2⟩ := HZ.out.1 c
    rw [h1, h2]
    exact ⟨hbz0, none, 0, hR0.out, (Own.nil 0 Z).reads⟩)
  go_upto_if 25 with fail
  go_cut [24] from 24 to 28 (fun x w => KmS1 V g1 nA xA w)
  case first => as_aux_lemma =>
    rcases ieq e 0 with ⟨c, d1, d2⟩ | ⟨c, d1, d2⟩
    · have KT := Lib.hid (RT.out c Z hbz0)
      have HRz := hR0
      have f0 : ∀ (w : Later Z.heap.size Z), w.val.cell? ⟨g1, 0, none⟩ = some (.int .i64 0) := fun w => (HRz.out.keep_at w.below hgZ).cell rfl
      have z0 : ∀ (w : Later Z.heap.size Z), w.val.frozen? ⟨g1, 0, none⟩ = false := fun w => (HRz.out.keep_at w.below hgZ).fz 0
      have f1 : ∀ (w : Later Z.heap.size Z) (x0 : Value), (w.val.setCell ⟨g1, 0, none⟩ x0).cell? ⟨g1, 1, none⟩ = some (.slice none 0 0) := fun w x0 => ((HRz.out.keep_at w.below hgZ).set 0 x0).cell rfl
      have z1 : ∀ (w : Later Z.heap.size Z) (x0 : Value), (w.val.setCell ⟨g1, 0, none⟩ x0).frozen? ⟨g1, 1, none⟩ = false := fun w x0 => ((HRz.out.keep_at w.below hgZ).set 0 x0).fz 1
      have HBz := Lib.hid hbz0
      have HC := Lib.hid c
      clear c hbz0 HS0
      go_wp2_with (first | (go_at_call 5; (with_reducible refine (KT.out).mono ?_); rintro e _ ⟨_, rfl, ⟨ad, cp, rfl, hO⟩, v2, rfl⟩) | fail)
      go_meet
      case rel =>
        have hr := ((hR0.out.keep v2.below).set 0 (.int .i64 nA)).set 1 (.slice ad xA.length cp)
        exact ⟨((HBz.out.up v2).set hgV _).set hgV _, ad, cp, hr, ((hO.set hgZ _).set hgZ _).reads⟩
    · have HS := Lib.hid (HS0.out c)
      have HC := Lib.hid c
      clear c
      go_wp2
      go_meet
      case rel => exact HS.out
  case rest => as_aux_lemma =>
  obtain ⟨hbV1, ad1, cp1, hM1⟩ := hcut
  have N1 := Lib.hid hM1
  clear hM1 hR0 hbz0 HS0 hgZ hgV Z
  obtain ⟨y1, rfl⟩ := hbV1.later
  have KK2 := Lib.hid (RL.out _ hbV1)
  have hB2 := y1.size
  go_upto_region 6 with (first | (go_at_call 6; (with_reducible refine (KK2.out).mono ?_); rintro e _ ⟨_, rfl, ⟨ad2, cp2, rfl, hO2⟩, v2, rfl⟩) | fail)
  have N2 : Hid (BM (v2.val.alloc (.cells #[.int .i64 nL, .slice ad2 xL.length cp2] 26)) v2.val.heap.size nL ad2 cp2 xL) := Lib.hid (BM.new hO2)
  have hbn2 : Bel y1.val (v2.val.alloc (.cells #[.int .i64 nL, .slice ad2 xL.length cp2] 26)) := (Bel.of v2).alloc _
  replace N1 := Lib.hid (N1.out.bel hbn2)
  have hbV2 := belTrans hbV1 hbn2
  generalize v2.val.heap.size = g2 at *
  generalize v2.val.alloc (.cells #[.int .i64 nL, .slice ad2 xL.length cp2] 26) = X2 at *
  clear hO2 v2 KK2 hbn2 hbV1 hB2
  obtain ⟨y2, rfl⟩ := hbV2.later
  clear y1
  have KK3 := Lib.hid (RN.out y2.val)
  have hB3 := y2.size
  go_upto_region 7 with (first | (go_at_call 7; (with_reducible refine (KK3.out).mono ?_); rintro e _ ⟨_, rfl, ⟨ad3, cp3, rfl, hO3⟩, v3, rfl⟩) | fail)
  have N3 : Hid (BM (v3.val.alloc (.cells #[.int .i64 nN, .slice ad3 xN.length cp3] 26)) v3.val.heap.size nN ad3 cp3 xN) := Lib.hid (BM.new hO3)
  have hbn3 : Bel y2.val (v3.val.alloc (.cells #[.int .i64 nN, .slice ad3 xN.length cp3] 26)) := (Bel.of v3).alloc _
  replace N1 := Lib.hid (N1.out.bel hbn3)
  replace N2 := Lib.hid (N2.out.bel hbn3)
  have hbV3 := belTrans hbV2 hbn3
  generalize v3.val.heap.size = g3 at *
  generalize v3.val.alloc (.cells #[.int .i64 nN, .slice ad3 xN.length cp3] 26) = X3 at *
  clear hO3 v3 KK3 hbn3 hbV2 hB3
  obtain ⟨y3, rfl⟩ := hbV3.later
  clear y2
  have KK4 := Lib.hid (PT.out _ hbV3)
  have hB4 := y3.size
  go_upto_region 8 with (first | (go_at_call 8; (with_reducible refine (KK4.out).mono ?_); rintro e _ ⟨_, rfl, ⟨ad4, cp4, rfl, hO4⟩, v4, rfl⟩) | fail)
  have N4 : Hid (BM (v4.val.alloc (.cells #[.int .i64 nA, .slice ad4 xA.length cp4] 26)) v4.val.heap.size nA ad4 cp4 xA) := Lib.hid (BM.new hO4)
  have hbn4 : Bel y3.val (v4.val.alloc (.cells #[.int .i64 nA, .slice ad4 xA.length cp4] 26)) := (Bel.of v4).alloc _
  replace N1 := Lib.hid (N1.out.bel hbn4)
  replace N2 := Lib.hid (N2.out.bel hbn4)
  replace N3 := Lib.hid (N3.out.bel hbn4)
  have hbV4 := belTrans hbV3 hbn4
  generalize v4.val.heap.size = g4 at *
  generalize v4.val.alloc (.cells #[.int .i64 nA, .slice ad4 xA.length cp4] 26) = X4 at *
  clear hO4 v4 KK4 hbn4 hbV3 hB4
  obtain ⟨y4, rfl⟩ := hbV4.later
  clear y3
  have KK5 := Lib.hid (PL.out _ hbV4)
  have hB5 := y4.size
  go_upto_region 9 with (first | (go_at_call 9; (with_reducible refine (KK5.out).mono ?_); rintro e _ ⟨_, rfl, ⟨ad5, cp5, rfl, hO5⟩, v5, rfl⟩) | fail)
  have N5 : Hid (BM (v5.val.alloc (.cells #[.int .i64 nL, .slice ad5 xL.length cp5] 26)) v5.val.heap.size nL ad5 cp5 xL) := Lib.hid (BM.new hO5)
  have hbn5 : Bel y4.val (v5.val.alloc (.cells #[.int .i64 nL, .slice ad5 xL.length cp5] 26)) := (Bel.of v5).alloc _
  replace N1 := Lib.hid (N1.out.bel hbn5)
  replace N2 := Lib.hid (N2.out.bel hbn5)
  replace N3 := Lib.hid (N3.out.bel hbn5)
  replace N4 := Lib.hid (N4.out.bel hbn5)
  have hbV5 := belTrans hbV4 hbn5
  generalize v5.val.heap.size = g5 at *
  generalize v5.val.alloc (.cells #[.int .i64 nL, .slice ad5 xL.length cp5] 26) = X5 at *
  clear hO5 v5 KK5 hbn5 hbV4 hB5
  obtain ⟨y5, rfl⟩ := hbV5.later
  clear y4
  have KK6 := Lib.hid (PN.out y5.val)
  have hB6 := y5.size
  go_upto_region 10 with (first | (go_at_call 10; (with_reducible refine (KK6.out).mono ?_); rintro e _ ⟨_, rfl, ⟨ad6, cp6, rfl, hO6⟩, v6, rfl⟩) | fail)
  have N6 : Hid (BM (v6.val.alloc (.cells #[.int .i64 nN, .slice ad6 xN.length cp6] 26)) v6.val.heap.size nN ad6 cp6 xN) := Lib.hid (BM.new hO6)
  have hbn6 : Bel y5.val (v6.val.alloc (.cells #[.int .i64 nN, .slice ad6 xN.length cp6] 26)) := (Bel.of v6).alloc _
  replace N1 := Lib.hid (N1.out.bel hbn6)
  replace N2 := Lib.hid (N2.out.bel hbn6)
  replace N3 := Lib.hid (N3.out.bel hbn6)
  replace N4 := Lib.hid (N4.out.bel hbn6)
  replace N5 := Lib.hid (N5.out.bel hbn6)
  have hbV6 := belTrans hbV5 hbn6
  generalize v6.val.heap.size = g6 at *
  generalize v6.val.alloc (.cells #[.int .i64 nN, .slice ad6 xN.length cp6] 26) = X6 at *
  clear hO6 v6 KK6 hbn6 hbV5 hB6
  obtain ⟨y6, rfl⟩ := hbV6.later
  clear y5
  obtain ⟨X, hX⟩ : ∃ X, X = y6.val := ⟨_, rfl⟩
  have HW := Lib.hid (HU.out _ hbV6)
  have r1 : ∀ w : Later y6.val.heap.size y6.val, w.val.cell? ⟨g1, 0, none⟩ = some (.int .i64 nA) := fun w => (N1.out.1.keep w.below).cell rfl
  have s1 : ∀ w : Later y6.val.heap.size y6.val, w.val.cell? ⟨g1, 1, none⟩ = some (.slice ad1 xA.length cp1) := fun w => (N1.out.1.keep w.below).cell rfl
  have r2 : ∀ w : Later y6.val.heap.size y6.val, w.val.cell? ⟨g2, 0, none⟩ = some (.int .i64 nL) := fun w => (N2.out.1.keep w.below).cell rfl
  have s2 : ∀ w : Later y6.val.heap.size y6.val, w.val.cell? ⟨g2, 1, none⟩ = some (.slice ad2 xL.length cp2) := fun w => (N2.out.1.keep w.below).cell rfl
  have r3 : ∀ w : Later y6.val.heap.size y6.val, w.val.cell? ⟨g3, 0, none⟩ = some (.int .i64 nN) := fun w => (N3.out.1.keep w.below).cell rfl
  have s3 : ∀ w : Later y6.val.heap.size y6.val, w.val.cell? ⟨g3, 1, none⟩ = some (.slice ad3 xN.length cp3) := fun w => (N3.out.1.keep w.below).cell rfl
  have r4 : ∀ w : Later y6.val.heap.size y6.val, w.val.cell? ⟨g4, 0, none⟩ = some (.int .i64 nA) := fun w => (N4.out.1.keep w.below).cell rfl
  have s4 : ∀ w : Later y6.val.heap.size y6.val, w.val.cell? ⟨g4, 1, none⟩ = some (.slice ad4 xA.length cp4) := fun w => (N4.out.1.keep w.below).cell rfl
  have r5 : ∀ w : Later y6.val.heap.size y6.val, w.val.cell? ⟨g5, 0, none⟩ = some (.int .i64 nL) := fun w => (N5.out.1.keep w.below).cell rfl
  have s5 : ∀ w : Later y6.val.heap.size y6.val, w.val.cell? ⟨g5, 1, none⟩ = some (.slice ad5 xL.length cp5) := fun w => (N5.out.1.keep w.below).cell rfl
  have r6 : ∀ w : Later y6.val.heap.size y6.val, w.val.cell? ⟨g6, 0, none⟩ = some (.int .i64 nN) := fun w => (N6.out.1.keep w.below).cell rfl
  have s6 : ∀ w : Later y6.val.heap.size y6.val, w.val.cell? ⟨g6, 1, none⟩ = some (.slice ad6 xN.length cp6) := fun w => (N6.out.1.keep w.below).cell rfl
  have KT1 : Hid (∀ w : Later y6.val.heap.size y6.val, Calls Try.prog 11 #[.agg #[.int .i64 nA, .slice ad4 xA.length cp4], .int .i64 e, .agg #[.int .i64 nA, .slice ad1 xA.length cp1], .int .i64 e] w.val (Ret y6.val.heap.size y6.val (.bool true))) := Lib.hid (fun w => c_told w nA nA xA xA ad4 ad1 cp4 cp1 e e N4.out.2 N1.out.2 (HL.out.1) rfl (told_ok (HZ.out.1)))
  have KT2 : Hid (∀ w : Later y6.val.heap.size y6.val, Calls Try.prog 11 #[.agg #[.int .i64 nL, .slice ad5 xL.length cp5], .int .i64 f, .agg #[.int .i64 nL, .slice ad2 xL.length cp2], .int .i64 f] w.val (Ret y6.val.heap.size y6.val (.bool true))) := Lib.hid (fun w => c_told w nL nL xL xL ad5 ad2 cp5 cp2 f f N5.out.2 N2.out.2 (HL.out.2.1) rfl (told_ok (HZ.out.2.1)))
  have KT3 : Hid (∀ w : Later y6.val.heap.size y6.val, Calls Try.prog 11 #[.agg #[.int .i64 nN, .slice ad6 xN.length cp6], .int .i64 g, .agg #[.int .i64 nN, .slice ad3 xN.length cp3], .int .i64 g] w.val (Ret y6.val.heap.size y6.val (.bool true))) := Lib.hid (fun w => c_told w nN nN xN xN ad6 ad3 cp6 cp3 g g N6.out.2 N3.out.2 (HL.out.2.2) rfl (told_ok (HZ.out.2.2)))
  have KB : Hid (∀ w : Later y6.val.heap.size y6.val, Calls Try.prog 12 #[.bool ok, .int .i64 6] w.val (Ret y6.val.heap.size y6.val (.int .i64 g))) := Lib.hid (fun w => by rw [HG.out]; exact c_bad w ok 6)
  have hbw : ∀ w : Later y6.val.heap.size y6.val, Bel V w.val := fun w => hbV6.up w
  have HWW := Lib.hid (fun w : Later y6.val.heap.size y6.val => HU.out _ (hbw w))
  clear hX X HW hbw hbV6 N1 N2 N3 N4 N5 N6 HZ HL HG HU
  obtain ⟨z, hz⟩ : ∃ z : Later y6.val.heap.size y6.val, z.val = y6.val := ⟨Later.self _, rfl⟩
  rw [← hz]
  clear hz
  refine wp_region_later z (by kernel_rfl) (by kernel_rfl) (fun _ => ?_)
  repeat (go_big_quiet_step (fail))
  go_big_quiet_step (exact KT1.out _)
  repeat (go_big_quiet_step (fail))
  go_big_quiet_step (exact KT2.out _)
  repeat (go_big_quiet_step (fail))
  go_big_quiet_step (exact KB.out _)
  repeat (go_big_quiet_step (fail))
  go_big_quiet_step (exact KT3.out _)
  repeat (go_big_quiet_step (fail))
  refine wpQuiet_nil ?_
  intro z
  go_wp2
  go_ret
  obtain ⟨w, hw⟩ := HWW.out z
  rw [← hw]
  exact Ret.mk w rfl

end Go.Proofs.Ytdieaijgoidocaa
