
/-
  rotalaw.KindsSays, where the functions and the references answer one and the same.
  rotalaw.KindsSays of whatever.
-/
import Derived.Test.YtffnpokceomncaaPk39
import Derived.Test.YtffnpokceomncaaPk41
import Derived.Test.YtffnpokceomncaaPk42
import Derived.Test.YtffnpokceomncaaPk45
import Derived.Test.YtffnpokceomncaaPk12
import Derived.Test.YtffnpokceomncaaPk33
import Derived.Test.YtffnpokceomncaaPk22
import Derived.Deep.CutRange
namespace Go.Proofs.Ytffnpokceomncaa
open Go.RowKit
set_option linter.unusedVariables false

theorem belTransK {a b c : World} (h : Bel a b) (k : Bel b c) : Bel a c := ⟨h.1.trans (k.1.mono h.2), Nat.le_trans h.2 k.2⟩
/-- a matroid in a box -/
def BK (w : World) (g : Nat) (n : Int) (ad : Option Addr) (cp : Nat) (xs : List Int) : Prop := RowL w g 45 [.int .i64 n, .slice ad xs.length cp] ∧ IntsAt w.heap.size w ad xs
theorem BK.bel {w w' : World} {g : Nat} {n : Int} {ad : Option Addr} {cp : Nat} {xs : List Int} (h : BK w g n ad cp xs) (hb : Bel w w') : BK w' g n ad cp xs := by
  obtain ⟨v, rfl⟩ := hb.later
  exact ⟨h.1.keep v.below, h.2.to v⟩
theorem BK.new {B : Nat} {w : World} {n : Int} {ad : Option Addr} {cp : Nat} {xs : List Int} (h : Own B w ad cp xs) : BK (w.alloc (.cells #[.int .i64 n, .slice ad xs.length cp] 45)) w.heap.size n ad cp xs :=
  ⟨RowL.new w 45 [.int .i64 n, .slice ad xs.length cp], h.reads.to ((Later.self w).alloc _)⟩
/-- three boxes side by side -/
def K3 (V : World) (g : Nat) (n1 : Int) (x1 : List Int) (n2 : Int) (x2 : List Int) (n3 : Int) (x3 : List Int) (w : World) : Prop :=
  Bel V w ∧ g + 3 ≤ w.heap.size ∧ (∃ ad cp, MO (g + 3) w g n1 ad cp x1) ∧ (∃ ad cp, MO (g + 3) w (g + 1) n2 ad cp x2) ∧ ∃ ad cp, MO (g + 3) w (g + 2) n3 ad cp x3
/-- a box of its own is filled -/
theorem K3.fill {V : World} {g : Nat} {n1 n2 n3 : Int} {x1 x2 x3 : List Int} {w : World} (h : K3 V g n1 x1 n2 x2 n3 x3 w) (hg : V.heap.size ≤ g) (y : Later w.heap.size w) {n : Int} {ad : Option Addr} {cp : Nat} {xs : List Int} (ho : Own w.heap.size y.val ad cp xs) :
    K3 V g n xs n2 x2 n3 x3 ((y.val.setCell ⟨g, 0, none⟩ (.int .i64 n)).setCell ⟨g, 1, none⟩ (.slice ad xs.length cp)) ∧ K3 V g n1 x1 n xs n3 x3 ((y.val.setCell ⟨g + 1, 0, none⟩ (.int .i64 n)).setCell ⟨g + 1, 1, none⟩ (.slice ad xs.length cp)) ∧ K3 V g n1 x1 n2 x2 n xs ((y.val.setCell ⟨g + 2, 0, none⟩ (.int .i64 n)).setCell ⟨g + 2, 1, none⟩ (.slice ad xs.length cp)) := by
  obtain ⟨hb, hs, ⟨a1, c1, h1⟩, ⟨a2, c2, h2⟩, ⟨a3, c3, h3⟩⟩ := h
  have k1 := h1.later y
  have k2 := h2.later y
  have k3 := h3.later y
  have hy := y.size
  have ho' := ho.mono hs
  refine ⟨⟨((hb.up y).set hg _).set hg _, by simp; omega, ⟨ad, cp, MO.fill k1.1 ho' (by omega)⟩, ⟨a2, c2, k2.stored (by omega) (by omega) _ _⟩, ⟨a3, c3, k3.stored (by omega) (by omega) _ _⟩⟩, ⟨((hb.up y).set (show V.heap.size ≤ g + 1 by omega) _).set (show V.heap.size ≤ g + 1 by omega) _, by simp; omega, ⟨a1, c1, k1.stored (by omega) (by omega) _ _⟩, ⟨ad, cp, MO.fill k2.1 ho' (by omega)⟩, ⟨a3, c3, k3.stored (by omega) (by omega) _ _⟩⟩, ⟨((hb.up y).set (show V.heap.size ≤ g + 2 by omega) _).set (show V.heap.size ≤ g + 2 by omega) _, by simp; omega, ⟨a1, c1, k1.stored (by omega) (by omega) _ _⟩, ⟨a2, c2, k2.stored (by omega) (by omega) _ _⟩, ⟨ad, cp, MO.fill k3.1 ho' (by omega)⟩⟩⟩

set_option maxRecDepth 100000 in
set_option maxHeartbeats 20000000 in
theorem law_ks {B : Nat} {W : World} (u : Later B W) (rank n ng px cx : Int) (es : List (Int × Int)) (rx : Lls) (ag ax : Option Addr) (capg capx : Nat) (hg : EdgesAt B W ag es) (hleg : es.length ≤ 4611686018427387904) (hx : RowsI B W ax rx) (hlx : rx.length ≤ 17592186044416) (hrx : ∀ i, i < rx.length → (rx.getD i []).length ≤ 17592186044416)
    (eu eg el nU nG nL : Int) (xU xG xL : List Int) (he1 : eu = errno (decide (isChoice n rank)) 1) (he2 : eg = errno (decide (isGraph ng es)) 1) (he3 : el = errno (decide (isMatrix px cx rx)) 1)
    (zU : ZIf eu nU xU) (zG : ZIf eg nG xG) (zL : ZIf el nL xL) (lU : xU.length ≤ 4611686018427387904) (lG : xG.length ≤ 4611686018427387904) (lL : xL.length ≤ 4611686018427387904)
    (pU : ∀ (B : Nat) (W : World) (v : Later B W), Calls Try.prog 28 #[.int .i64 rank, .int .i64 n] v.val (RetP B W (MatTO B nU xU eu)))
    (rU : eu = 0 → ∀ (B : Nat) (W : World) (v : Later B W) (gl : Nat), gl < B → W.cell? ⟨gl, 0, none⟩ = some (.int .i64 rank) → Calls Try.prog 23 #[.int .i64 n, .func (.func 24) #[] #[.pointer (some ⟨gl, 0, none⟩)]] v.val (RetP B W (MatO B nU xU)))
    (pG : ∀ (B : Nat) (W : World) (v : Later B W), EdgesAt B W ag es → Calls Try.prog 29 #[.agg #[.int .i64 ng, .slice ag es.length capg]] v.val (RetP B W (MatTO B nG xG eg)))
    (rG : eg = 0 → ∀ (B : Nat) (W : World) (v : Later B W), EdgesAt B W ag es → Calls Try.prog 26 #[.agg #[.int .i64 ng, .slice ag es.length capg]] v.val (RetP B W (MatO B nG xG)))
    (pL : ∀ (B : Nat) (W : World) (v : Later B W), RowsI B W ax rx → Calls Try.prog 30 #[.agg #[.int .i64 px, .int .i64 cx, .slice ax rx.length capx]] v.val (RetP B W (MatTO B nL xL el)))
    (rL : el = 0 → ∀ (B : Nat) (W : World) (v : Later B W), RowsI B W ax rx → Calls Try.prog 27 #[.agg #[.int .i64 px, .int .i64 cx, .slice ax rx.length capx]] v.val (RetP B W (MatO B nL xL))) :
    Calls Try.prog 5 #[.int .i64 rank, .int .i64 n, .agg #[.int .i64 ng, .slice ag es.length capg], .agg #[.int .i64 px, .int .i64 cx, .slice ax rx.length capx]] u.val (Ret B W (.bool true)) := by
  have k1 : (u.val.alloc (.cells #[.int .i64 rank] 3)).heap.size = u.val.heap.size + 1 := by simp
  have k2 : ((u.val.alloc (.cells #[.int .i64 rank] 3)).alloc (.cells #[.int .i64 ng, .slice ag es.length capg] 42)).heap.size = u.val.heap.size + 1 + 1 := by simp
  have T0 : Hid (RowL (((u.val.alloc (.cells #[.int .i64 rank] 3)).alloc (.cells #[.int .i64 ng, .slice ag es.length capg] 42)).alloc (.cells #[.int .i64 px, .int .i64 cx, .slice ax rx.length capx] 24)) u.val.heap.size 3 [.int .i64 rank]) := Lib.hid (((RowL.new u.val 3 [.int .i64 rank]).keep ((Below.refl _ _).alloc (Nat.le_refl _) _)).keep ((Below.refl _ _).alloc (Nat.le_refl _) _))
  have T1 : Hid (RowL (((u.val.alloc (.cells #[.int .i64 rank] 3)).alloc (.cells #[.int .i64 ng, .slice ag es.length capg] 42)).alloc (.cells #[.int .i64 px, .int .i64 cx, .slice ax rx.length capx] 24)) (u.val.heap.size + 1) 42 [.int .i64 ng, .slice ag es.length capg]) := Lib.hid (by
    have h := (RowL.new (u.val.alloc (.cells #[.int .i64 rank] 3)) 42 [.int .i64 ng, .slice ag es.length capg]).keep ((Below.refl _ _).alloc (Nat.le_refl _) (.cells #[.int .i64 px, .int .i64 cx, .slice ax rx.length capx] 24))
    rwa [k1] at h)
  have T2 : Hid (RowL (((u.val.alloc (.cells #[.int .i64 rank] 3)).alloc (.cells #[.int .i64 ng, .slice ag es.length capg] 42)).alloc (.cells #[.int .i64 px, .int .i64 cx, .slice ax rx.length capx] 24)) (u.val.heap.size + 1 + 1) 24 [.int .i64 px, .int .i64 cx, .slice ax rx.length capx]) := Lib.hid (by
    have h := RowL.new ((u.val.alloc (.cells #[.int .i64 rank] 3)).alloc (.cells #[.int .i64 ng, .slice ag es.length capg] 42)) 24 [.int .i64 px, .int .i64 cx, .slice ax rx.length capx]
    rwa [k2] at h)
  have HV : Hid (∀ w : World, Bel (((u.val.alloc (.cells #[.int .i64 rank] 3)).alloc (.cells #[.int .i64 ng, .slice ag es.length capg] 42)).alloc (.cells #[.int .i64 px, .int .i64 cx, .slice ax rx.length capx] 24)) w → ∃ x : Later B W, x.val = w) := Lib.hid (fun w h => by
    obtain ⟨v, rfl⟩ := h.later
    exact ⟨(((u.alloc _).alloc _).alloc _).up v, rfl⟩)
  have HGs : Hid (EdgesAt (((u.val.alloc (.cells #[.int .i64 rank] 3)).alloc (.cells #[.int .i64 ng, .slice ag es.length capg] 42)).alloc (.cells #[.int .i64 px, .int .i64 cx, .slice ax rx.length capx] 24)).heap.size (((u.val.alloc (.cells #[.int .i64 rank] 3)).alloc (.cells #[.int .i64 ng, .slice ag es.length capg] 42)).alloc (.cells #[.int .i64 px, .int .i64 cx, .slice ax rx.length capx] 24)) ag es) := Lib.hid (hg.to (((u.alloc _).alloc _).alloc _))
  have HXs : Hid (RowsI (((u.val.alloc (.cells #[.int .i64 rank] 3)).alloc (.cells #[.int .i64 ng, .slice ag es.length capg] 42)).alloc (.cells #[.int .i64 px, .int .i64 cx, .slice ax rx.length capx] 24)).heap.size (((u.val.alloc (.cells #[.int .i64 rank] 3)).alloc (.cells #[.int .i64 ng, .slice ag es.length capg] 42)).alloc (.cells #[.int .i64 px, .int .i64 cx, .slice ax rx.length capx] 24)) ax rx) := Lib.hid (hx.to (((u.alloc _).alloc _).alloc _))
  have HRx := Lib.hid hrx
  have HE := Lib.hid (And.intro he1 (And.intro he2 he3))
  have HZ := Lib.hid (And.intro zU (And.intro zG zL))
  have HL := Lib.hid (And.intro lU (And.intro lG lL))
  have PU := Lib.hid (fun w : World => pU _ _ (Later.self w))
  have RU := Lib.hid (fun (c : eu = 0) (w : World) => rU c _ _ (Later.self w))
  have PG := Lib.hid (fun w : World => pG _ _ (Later.self w))
  have RG := Lib.hid (fun (c : eg = 0) (w : World) => rG c _ _ (Later.self w))
  have PL := Lib.hid (fun w : World => pL _ _ (Later.self w))
  have RL := Lib.hid (fun (c : el = 0) (w : World) => rL c _ _ (Later.self w))
  dsimp only [Later.self] at PU RU PG RG PL RL
  clear hg hx hrx he1 he2 he3 zU zG zL lU lG lL pU rU pG rG pL rL k1 k2
  go_enter Try.func5, Try.ntmps5
  go_upto_region 1 with fail
  generalize (((u.val.alloc (.cells #[.int .i64 rank] 3)).alloc (.cells #[.int .i64 ng, .slice ag es.length capg] 42)).alloc (.cells #[.int .i64 px, .int .i64 cx, .slice ax rx.length capx] 24)) = V at *
  generalize u.val.heap.size = b0 at *
  clear u
  have hb0 : b0 + 1 + 1 < V.heap.size := T2.out.lt
  have q0 : ∀ w : Later V.heap.size V, w.val.cell? ⟨b0, 0, none⟩ = some (.int .i64 rank) := fun w => (T0.out.keep w.below).cell rfl
  have q1 : ∀ w : Later V.heap.size V, w.val.cell? ⟨b0 + 1, 0, none⟩ = some (.int .i64 ng) := fun w => (T1.out.keep w.below).cell rfl
  have q2 : ∀ w : Later V.heap.size V, w.val.cell? ⟨b0 + 1, 1, none⟩ = some (.slice ag es.length capg) := fun w => (T1.out.keep w.below).cell rfl
  have q3 : ∀ w : Later V.heap.size V, w.val.cell? ⟨b0 + 1 + 1, 0, none⟩ = some (.int .i64 px) := fun w => (T2.out.keep w.below).cell rfl
  have q4 : ∀ w : Later V.heap.size V, w.val.cell? ⟨b0 + 1 + 1, 1, none⟩ = some (.int .i64 cx) := fun w => (T2.out.keep w.below).cell rfl
  have q5 : ∀ w : Later V.heap.size V, w.val.cell? ⟨b0 + 1 + 1, 2, none⟩ = some (.slice ax rx.length capx) := fun w => (T2.out.keep w.below).cell rfl
  obtain ⟨bg, hbg⟩ : ∃ bg, bg = decide (isGraph ng es) := ⟨_, rfl⟩
  obtain ⟨bl, hbl⟩ : ∃ bl, bl = decide (isMatrix px cx rx) := ⟨_, rfl⟩
  obtain ⟨bu, hbu⟩ : ∃ bu, bu = decide (isChoice n rank) := ⟨_, rfl⟩
  have KG : Hid (∀ w : Later V.heap.size V, Calls Try.prog 22 #[.agg #[.int .i64 ng, .slice ag es.length capg]] w.val (Ret V.heap.size V (.bool bg))) := Lib.hid (fun w => by rw [hbg]; exact c_isGraph w ng es ag capg HGs.out hleg)
  have KX : Hid (∀ w : Later V.heap.size V, Calls Try.prog 10 #[.agg #[.int .i64 px, .int .i64 cx, .slice ax rx.length capx]] w.val (Ret V.heap.size V (.bool bl))) := Lib.hid (fun w => by rw [hbl]; exact c_isMatrix w px cx rx ax capx HXs.out hlx HRx.out)
  have KB : Hid (∀ (w : Later V.heap.size V) (b : Bool), Calls Try.prog 9 #[.bool b, .int .i64 1] w.val (Ret V.heap.size V (.int .i64 (errno b 1)))) := Lib.hid (fun w b => c_bad w b 1)
  have HEg : Hid (errno bg 1 = eg) := Lib.hid (by rw [HE.out.2.1, hbg])
  have HEl : Hid (errno bl 1 = el) := Lib.hid (by rw [HE.out.2.2, hbl])
  have HEu : Hid (errno bu 1 = eu) := Lib.hid (by rw [HE.out.1, hbu])
  have HBu := Lib.hid hbu
  have KCg : Hid (∀ w : Later V.heap.size V, Calls Try.prog 31 #[.agg #[.int .i64 ng, .slice ag es.length capg]] w.val (Ret V.heap.size V (.int .i64 eg))) := Lib.hid (fun w => by rw [HE.out.2.1]; exact c_checkGraph w ng es ag capg HGs.out hleg)
  have KCx : Hid (∀ w : Later V.heap.size V, Calls Try.prog 32 #[.agg #[.int .i64 px, .int .i64 cx, .slice ax rx.length capx]] w.val (Ret V.heap.size V (.int .i64 el))) := Lib.hid (fun w => by rw [HE.out.2.2]; exact c_checkMatrix w px cx rx ax capx HXs.out hlx HRx.out)
  clear hbg hbl hbu
  obtain ⟨z, hz⟩ : ∃ z : Later V.heap.size V, z.val = V := ⟨Later.self _, rfl⟩
  rw [← hz]
  clear hz
  refine wp_region_later z (by kernel_rfl) (by kernel_rfl) (fun _ => ?_)
  repeat (first | go_big_quiet_step ((first | (go_at_call 22; exact KG.out _) | (go_at_call 10; exact KX.out _) | (go_at_call 9; exact KB.out _ _))) | (refine wpQuiet_step (fun K hK => ?_); go_simp; refine ⟨_, fun _ => rfl, ?_⟩; refine hK _ ?_; clear hK K))
  refine wpQuiet_nil ?_
  intro z
  rw [HEg.out, HEl.out]
  clear KG KX HEg HEl
  have q0z := q0 z
  go_upto_region 2 with fail
  go_cut [11] from 27 to 42 (fun x w => x = .int .i64 eu ∧ ∃ v : Later V.heap.size V, w = v.val)
  case first => as_aux_lemma =>
    have KB2 : Hid (∀ (w : Later V.heap.size V), Calls Try.prog 9 #[.bool bu, .int .i64 1] w.val (Ret V.heap.size V (.int .i64 eu))) := Lib.hid (fun w => by
      have := KB.out w bu
      rwa [HEu.out] at this)
    have hbu : bu = decide (isChoice n rank) := HBu.out
    clear KB HEu HBu HE HZ HL PU RU PG RG PL RL KCg KCx HXs HGs HRx T0 T1 T2 q1 q2 q3 q4 q5
    unfold isChoice at hbu
    rcases ile 0 n with ⟨g1, d1⟩ | ⟨g1, d1⟩
    · rcases ile n 8 with ⟨g2, d2⟩ | ⟨g2, d2⟩
      · rcases ile 0 rank with ⟨g3, d3⟩ | ⟨g3, d3⟩
        · rcases ile rank n with ⟨g4, d4⟩ | ⟨g4, d4⟩
          · have hb : bu = true := by rw [hbu]; exact decide_eq_true ⟨g1, g2, g3, g4⟩
            clear hbu
            subst hb
            go_wp2_with (first | (go_at_call 9; (with_reducible refine (KB2.out z).mono ?_); rintro e _ ⟨rfl, v, rfl⟩) | fail)
            go_meet
            case rel => exact ⟨rfl, v, rfl⟩
          · have hb : bu = false := by rw [hbu]; exact decide_eq_false (fun h => by omega)
            clear hbu
            subst hb
            go_wp2_with (first | (go_at_call 9; (with_reducible refine (KB2.out z).mono ?_); rintro e _ ⟨rfl, v, rfl⟩) | fail)
            go_meet
            case rel => exact ⟨rfl, v, rfl⟩
        · have hb : bu = false := by rw [hbu]; exact decide_eq_false (fun h => by omega)
          clear hbu
          subst hb
          go_wp2_with (first | (go_at_call 9; (with_reducible refine (KB2.out z).mono ?_); rintro e _ ⟨rfl, v, rfl⟩) | fail)
          go_meet
          case rel => exact ⟨rfl, v, rfl⟩
      · have hb : bu = false := by rw [hbu]; exact decide_eq_false (fun h => by omega)
        clear hbu
        subst hb
        go_wp2_with (first | (go_at_call 9; (with_reducible refine (KB2.out z).mono ?_); rintro e _ ⟨rfl, v, rfl⟩) | fail)
        go_meet
        case rel => exact ⟨rfl, v, rfl⟩
    · have hb : bu = false := by rw [hbu]; exact decide_eq_false (fun h => by omega)
      clear hbu
      subst hb
      go_wp2_with (first | (go_at_call 9; (with_reducible refine (KB2.out z).mono ?_); rintro e _ ⟨rfl, v, rfl⟩) | fail)
      go_meet
      case rel => exact ⟨rfl, v, rfl⟩
  case rest => as_aux_lemma =>
  obtain ⟨rfl, v0, rfl⟩ := hcut
  clear q0z KB HEu HBu z
  go_upto_region 4 with fail
  have z1 : (v0.val.alloc (.cells #[.int .i64 0, .slice none 0 0] 45)).heap.size = v0.val.heap.size + 1 := by simp
  have z2 : ((v0.val.alloc (.cells #[.int .i64 0, .slice none 0 0] 45)).alloc (.cells #[.int .i64 0, .slice none 0 0] 45)).heap.size = v0.val.heap.size + 1 + 1 := by simp
  have z3 : (((v0.val.alloc (.cells #[.int .i64 0, .slice none 0 0] 45)).alloc (.cells #[.int .i64 0, .slice none 0 0] 45)).alloc (.cells #[.int .i64 0, .slice none 0 0] 45)).heap.size = v0.val.heap.size + 1 + 1 + 1 := by simp
  have N0 : Hid (K3 V v0.val.heap.size 0 [] 0 [] 0 [] (((v0.val.alloc (.cells #[.int .i64 0, .slice none 0 0] 45)).alloc (.cells #[.int .i64 0, .slice none 0 0] 45)).alloc (.cells #[.int .i64 0, .slice none 0 0] 45))) := Lib.hid ⟨(((Bel.of v0).alloc _).alloc _).alloc _, by rw [z3]; exact Nat.le_refl _, ⟨none, 0, ((RowL.new v0.val 45 [.int .i64 0, .slice none 0 0]).keep ((Below.refl _ _).alloc (Nat.le_refl _) _)).keep ((Below.refl _ _).alloc (Nat.le_refl _) _), Own.nil _ _⟩, ⟨none, 0, by
    have h := (RowL.new (v0.val.alloc (.cells #[.int .i64 0, .slice none 0 0] 45)) 45 [.int .i64 0, .slice none 0 0]).keep ((Below.refl _ _).alloc (Nat.le_refl _) (.cells #[.int .i64 0, .slice none 0 0] 45))
    rwa [z1] at h, Own.nil _ _⟩, ⟨none, 0, by
    have h := RowL.new ((v0.val.alloc (.cells #[.int .i64 0, .slice none 0 0] 45)).alloc (.cells #[.int .i64 0, .slice none 0 0] 45)) 45 [.int .i64 0, .slice none 0 0]
    rwa [z2] at h, Own.nil _ _⟩⟩
  have hgV : V.heap.size ≤ v0.val.heap.size := v0.size
  generalize (((v0.val.alloc (.cells #[.int .i64 0, .slice none 0 0] 45)).alloc (.cells #[.int .i64 0, .slice none 0 0] 45)).alloc (.cells #[.int .i64 0, .slice none 0 0] 45)) = Z at *
  generalize v0.val.heap.size = g1 at *
  clear z1 z2 z3 v0
  have hsz : ∀ w : World, Bel V w → w.heap.size ≥ V.heap.size := fun w h => h.2
  -- Uniform
  go_upto_if 44 with fail
  go_cut [43] from 43 to 47 (fun x w => x = .int .i64 eu ∧ K3 V g1 nU xU 0 [] 0 [] w)
  case first => as_aux_lemma =>
    have hh := N0.out
    obtain ⟨a1, c1, h1⟩ := hh.2.2.1
    have HRz : Hid (RowL Z (g1) 45 [.int .i64 0, .slice a1 0 c1]) := Lib.hid h1.1
    have hgZ : g1 < Z.heap.size := h1.1.lt
    obtain ⟨y, hy⟩ := hh.1.later
    rcases ieq eu 0 with ⟨c, d1, d2⟩ | ⟨c, d1, d2⟩
    · have KT : Hid (Calls Try.prog 23 #[.int .i64 n, .func (.func 24) #[] #[.pointer (some ⟨b0, 0, none⟩)]] Z (RetP Z.heap.size Z (MatO Z.heap.size nU xU))) := Lib.hid (RU.out c Z b0 (by have := hh.1.2; omega) (by rw [← hy]; exact q0 y))
      have f0 : ∀ (w : Later Z.heap.size Z), w.val.cell? ⟨g1, 0, none⟩ = some (.int .i64 0) := fun w => (HRz.out.keep_at w.below hgZ).cell rfl
      have z0 : ∀ (w : Later Z.heap.size Z), w.val.frozen? ⟨g1, 0, none⟩ = false := fun w => (HRz.out.keep_at w.below hgZ).fz 0
      have f1 : ∀ (w : Later Z.heap.size Z) (x0 : Value), (w.val.setCell ⟨g1, 0, none⟩ x0).cell? ⟨g1, 1, none⟩ = some (.slice a1 0 c1) := fun w x0 => ((HRz.out.keep_at w.below hgZ).set 0 x0).cell rfl
      have z1 : ∀ (w : Later Z.heap.size Z) (x0 : Value), (w.val.setCell ⟨g1, 0, none⟩ x0).frozen? ⟨g1, 1, none⟩ = false := fun w x0 => ((HRz.out.keep_at w.below hgZ).set 0 x0).fz 1
      have HC := Lib.hid c
      clear c hy y hh h1
      go_wp2_with (first | (go_at_call 23; (with_reducible refine (KT.out).mono ?_); rintro e _ ⟨_, rfl, ⟨ad, cp, rfl, hO⟩, v2, rfl⟩) | fail)
      go_meet
      case rel => exact ⟨by first | rfl | rw [HC.out], (N0.out.fill hgV v2 hO).1⟩
    · obtain ⟨e1, e2⟩ := HZ.out.1 c
      have HN : Hid (K3 V g1 nU xU 0 [] 0 [] Z) := Lib.hid (by rw [e1, e2]; exact N0.out)
      clear e1 e2 hy y hh h1 c
      go_wp2
      go_meet
      case rel => exact ⟨rfl, HN.out⟩
  case rest => as_aux_lemma =>
  obtain ⟨rfl, hN⟩ := hcut
  clear N0 Z
  have N0 := Lib.hid hN
  clear hN
  obtain ⟨Z, rfl⟩ : ∃ Z, Z = wc := ⟨_, rfl⟩
  -- Graphic
  go_upto_if 49 with fail
  go_cut [48] from 48 to 51 (fun x w => x = .int .i64 eg ∧ K3 V g1 nU xU nG xG 0 [] w)
  case first => as_aux_lemma =>
    have hh := N0.out
    obtain ⟨a1, c1, h1⟩ := hh.2.2.2.1
    have HRz : Hid (RowL Z (g1 + 1) 45 [.int .i64 0, .slice a1 0 c1]) := Lib.hid h1.1
    have hgZ : g1 + 1 < Z.heap.size := h1.1.lt
    obtain ⟨y, hy⟩ := hh.1.later
    rcases ieq eg 0 with ⟨c, d1, d2⟩ | ⟨c, d1, d2⟩
    · have KT : Hid (Calls Try.prog 26 #[.agg #[.int .i64 ng, .slice ag es.length capg]] Z (RetP Z.heap.size Z (MatO Z.heap.size nG xG))) := Lib.hid (RG.out c Z (by rw [← hy]; exact HGs.out.to y))
      have l1 := q1 y
      have l2 := q2 y
      rw [hy] at l1 l2
      have f0 : ∀ (w : Later Z.heap.size Z), w.val.cell? ⟨g1 + 1, 0, none⟩ = some (.int .i64 0) := fun w => (HRz.out.keep_at w.below hgZ).cell rfl
      have z0 : ∀ (w : Later Z.heap.size Z), w.val.frozen? ⟨g1 + 1, 0, none⟩ = false := fun w => (HRz.out.keep_at w.below hgZ).fz 0
      have f1 : ∀ (w : Later Z.heap.size Z) (x0 : Value), (w.val.setCell ⟨g1 + 1, 0, none⟩ x0).cell? ⟨g1 + 1, 1, none⟩ = some (.slice a1 0 c1) := fun w x0 => ((HRz.out.keep_at w.below hgZ).set 0 x0).cell rfl
      have z1 : ∀ (w : Later Z.heap.size Z) (x0 : Value), (w.val.setCell ⟨g1 + 1, 0, none⟩ x0).frozen? ⟨g1 + 1, 1, none⟩ = false := fun w x0 => ((HRz.out.keep_at w.below hgZ).set 0 x0).fz 1
      have HC := Lib.hid c
      clear c hy y hh h1
      go_wp2_with (first | (go_at_call 26; (with_reducible refine (KT.out).mono ?_); rintro e _ ⟨_, rfl, ⟨ad, cp, rfl, hO⟩, v2, rfl⟩) | fail)
      go_meet
      case rel => exact ⟨by first | rfl | rw [HC.out], (N0.out.fill hgV v2 hO).2.1⟩
    · obtain ⟨e1, e2⟩ := HZ.out.2.1 c
      have HN : Hid (K3 V g1 nU xU nG xG 0 [] Z) := Lib.hid (by rw [e1, e2]; exact N0.out)
      clear e1 e2 hy y hh h1 c
      go_wp2
      go_meet
      case rel => exact ⟨rfl, HN.out⟩
  case rest => as_aux_lemma =>
  obtain ⟨rfl, hN⟩ := hcut
  clear N0 Z
  have N0 := Lib.hid hN
  clear hN
  obtain ⟨Z, rfl⟩ : ∃ Z, Z = wc := ⟨_, rfl⟩
  -- Linear
  go_upto_if 53 with fail
  go_cut [52] from 52 to 55 (fun x w => x = .int .i64 el ∧ K3 V g1 nU xU nG xG nL xL w)
  case first => as_aux_lemma =>
    have hh := N0.out
    obtain ⟨a1, c1, h1⟩ := hh.2.2.2.2
    have HRz : Hid (RowL Z (g1 + 2) 45 [.int .i64 0, .slice a1 0 c1]) := Lib.hid h1.1
    have hgZ : g1 + 2 < Z.heap.size := h1.1.lt
    obtain ⟨y, hy⟩ := hh.1.later
    rcases ieq el 0 with ⟨c, d1, d2⟩ | ⟨c, d1, d2⟩
    · have KT : Hid (Calls Try.prog 27 #[.agg #[.int .i64 px, .int .i64 cx, .slice ax rx.length capx]] Z (RetP Z.heap.size Z (MatO Z.heap.size nL xL))) := Lib.hid (RL.out c Z (by rw [← hy]; exact HXs.out.to y))
      have l1 := q3 y
      have l2 := q4 y
      have l3 := q5 y
      rw [hy] at l1 l2 l3
      have f0 : ∀ (w : Later Z.heap.size Z), w.val.cell? ⟨g1 + 2, 0, none⟩ = some (.int .i64 0) := fun w => (HRz.out.keep_at w.below hgZ).cell rfl
      have z0 : ∀ (w : Later Z.heap.size Z), w.val.frozen? ⟨g1 + 2, 0, none⟩ = false := fun w => (HRz.out.keep_at w.below hgZ).fz 0
      have f1 : ∀ (w : Later Z.heap.size Z) (x0 : Value), (w.val.setCell ⟨g1 + 2, 0, none⟩ x0).cell? ⟨g1 + 2, 1, none⟩ = some (.slice a1 0 c1) := fun w x0 => ((HRz.out.keep_at w.below hgZ).set 0 x0).cell rfl
      have z1 : ∀ (w : Later Z.heap.size Z) (x0 : Value), (w.val.setCell ⟨g1 + 2, 0, none⟩ x0).frozen? ⟨g1 + 2, 1, none⟩ = false := fun w x0 => ((HRz.out.keep_at w.below hgZ).set 0 x0).fz 1
      have HC := Lib.hid c
      clear c hy y hh h1
      go_wp2_with (first | (go_at_call 27; (with_reducible refine (KT.out).mono ?_); rintro e _ ⟨_, rfl, ⟨ad, cp, rfl, hO⟩, v2, rfl⟩) | fail)
      go_meet
      case rel => exact ⟨by first | rfl | rw [HC.out], (N0.out.fill hgV v2 hO).2.2⟩
    · obtain ⟨e1, e2⟩ := HZ.out.2.2 c
      have HN : Hid (K3 V g1 nU xU nG xG nL xL Z) := Lib.hid (by rw [e1, e2]; exact N0.out)
      clear e1 e2 hy y hh h1 c
      go_wp2
      go_meet
      case rel => exact ⟨rfl, HN.out⟩
  case rest => as_aux_lemma =>
  obtain ⟨rfl, hN⟩ := hcut
  clear N0 Z
  have N0 := Lib.hid hN
  clear hN
  obtain ⟨Z, rfl⟩ : ∃ Z, Z = wc := ⟨_, rfl⟩
  have hh := N0.out
  obtain ⟨hbV, _, ⟨ad1, cp1, h1⟩, ⟨ad2, cp2, h2⟩, ⟨ad3, cp3, h3⟩⟩ := hh
  have N1 : Hid (BK Z g1 nU ad1 cp1 xU) := Lib.hid ⟨h1.1, h1.2.reads⟩
  have N2 : Hid (BK Z (g1 + 1) nG ad2 cp2 xG) := Lib.hid ⟨h2.1, h2.2.reads⟩
  have N3 : Hid (BK Z (g1 + 2) nL ad3 cp3 xL) := Lib.hid ⟨h3.1, h3.2.reads⟩
  clear h1 h2 h3 N0 RU RG RL hsz hgV
  obtain ⟨y4, rfl⟩ := hbV.later
  have KK := Lib.hid (PU.out y4.val)
  have l0 := q0 y4
  go_upto_region 11 with (first | (go_at_call 28; (with_reducible refine (KK.out).mono ?_); rintro e _ ⟨_, rfl, ⟨ad4, cp4, rfl, hO⟩, v2, rfl⟩) | fail)
  have N4 : Hid (BK (v2.val.alloc (.cells #[.int .i64 nU, .slice ad4 xU.length cp4] 45)) v2.val.heap.size nU ad4 cp4 xU) := Lib.hid (BK.new hO)
  have hbn : Bel y4.val (v2.val.alloc (.cells #[.int .i64 nU, .slice ad4 xU.length cp4] 45)) := (Bel.of v2).alloc _
  replace N1 := Lib.hid (N1.out.bel hbn)
  replace N2 := Lib.hid (N2.out.bel hbn)
  replace N3 := Lib.hid (N3.out.bel hbn)
  replace hbV := belTransK hbV hbn
  generalize v2.val.heap.size = g4 at *
  generalize v2.val.alloc (.cells #[.int .i64 nU, .slice ad4 xU.length cp4] 45) = Z at *
  clear hO v2 KK hbn l0
  obtain ⟨y5, rfl⟩ := hbV.later
  have KK := Lib.hid (PG.out y5.val (HGs.out.to y5))
  have l1 := q1 y5
  have l2 := q2 y5
  go_upto_region 12 with (first | (go_at_call 29; (with_reducible refine (KK.out).mono ?_); rintro e _ ⟨_, rfl, ⟨ad5, cp5, rfl, hO⟩, v2, rfl⟩) | fail)
  have N5 : Hid (BK (v2.val.alloc (.cells #[.int .i64 nG, .slice ad5 xG.length cp5] 45)) v2.val.heap.size nG ad5 cp5 xG) := Lib.hid (BK.new hO)
  have hbn : Bel y5.val (v2.val.alloc (.cells #[.int .i64 nG, .slice ad5 xG.length cp5] 45)) := (Bel.of v2).alloc _
  replace N1 := Lib.hid (N1.out.bel hbn)
  replace N2 := Lib.hid (N2.out.bel hbn)
  replace N3 := Lib.hid (N3.out.bel hbn)
  replace N4 := Lib.hid (N4.out.bel hbn)
  replace hbV := belTransK hbV hbn
  generalize v2.val.heap.size = g5 at *
  generalize v2.val.alloc (.cells #[.int .i64 nG, .slice ad5 xG.length cp5] 45) = Z at *
  clear hO v2 KK hbn l1 l2
  obtain ⟨y6, rfl⟩ := hbV.later
  have KK := Lib.hid (PL.out y6.val (HXs.out.to y6))
  have l3 := q3 y6
  have l4 := q4 y6
  have l5 := q5 y6
  go_upto_region 13 with (first | (go_at_call 30; (with_reducible refine (KK.out).mono ?_); rintro e _ ⟨_, rfl, ⟨ad6, cp6, rfl, hO⟩, v2, rfl⟩) | fail)
  have N6 : Hid (BK (v2.val.alloc (.cells #[.int .i64 nL, .slice ad6 xL.length cp6] 45)) v2.val.heap.size nL ad6 cp6 xL) := Lib.hid (BK.new hO)
  have hbn : Bel y6.val (v2.val.alloc (.cells #[.int .i64 nL, .slice ad6 xL.length cp6] 45)) := (Bel.of v2).alloc _
  replace N1 := Lib.hid (N1.out.bel hbn)
  replace N2 := Lib.hid (N2.out.bel hbn)
  replace N3 := Lib.hid (N3.out.bel hbn)
  replace N4 := Lib.hid (N4.out.bel hbn)
  replace N5 := Lib.hid (N5.out.bel hbn)
  replace hbV := belTransK hbV hbn
  generalize v2.val.heap.size = g6 at *
  generalize v2.val.alloc (.cells #[.int .i64 nL, .slice ad6 xL.length cp6] 45) = Z at *
  clear hO v2 KK hbn l3 l4 l5
  obtain ⟨y, rfl⟩ := hbV.later
  have q1y : ∀ w : Later y.val.heap.size y.val, w.val.cell? ⟨b0 + 1, 0, none⟩ = some (.int .i64 ng) := fun w => q1 (y.up w)
  have q2y : ∀ w : Later y.val.heap.size y.val, w.val.cell? ⟨b0 + 1, 1, none⟩ = some (.slice ag es.length capg) := fun w => q2 (y.up w)
  have q3y : ∀ w : Later y.val.heap.size y.val, w.val.cell? ⟨b0 + 1 + 1, 0, none⟩ = some (.int .i64 px) := fun w => q3 (y.up w)
  have q4y : ∀ w : Later y.val.heap.size y.val, w.val.cell? ⟨b0 + 1 + 1, 1, none⟩ = some (.int .i64 cx) := fun w => q4 (y.up w)
  have q5y : ∀ w : Later y.val.heap.size y.val, w.val.cell? ⟨b0 + 1 + 1, 2, none⟩ = some (.slice ax rx.length capx) := fun w => q5 (y.up w)
  have r1 : ∀ w : Later y.val.heap.size y.val, w.val.cell? ⟨g1, 0, none⟩ = some (.int .i64 nU) := fun w => (N1.out.1.keep w.below).cell rfl
  have s1 : ∀ w : Later y.val.heap.size y.val, w.val.cell? ⟨g1, 1, none⟩ = some (.slice ad1 xU.length cp1) := fun w => (N1.out.1.keep w.below).cell rfl
  have r2 : ∀ w : Later y.val.heap.size y.val, w.val.cell? ⟨g1 + 1, 0, none⟩ = some (.int .i64 nG) := fun w => (N2.out.1.keep w.below).cell rfl
  have s2 : ∀ w : Later y.val.heap.size y.val, w.val.cell? ⟨g1 + 1, 1, none⟩ = some (.slice ad2 xG.length cp2) := fun w => (N2.out.1.keep w.below).cell rfl
  have r3 : ∀ w : Later y.val.heap.size y.val, w.val.cell? ⟨g1 + 2, 0, none⟩ = some (.int .i64 nL) := fun w => (N3.out.1.keep w.below).cell rfl
  have s3 : ∀ w : Later y.val.heap.size y.val, w.val.cell? ⟨g1 + 2, 1, none⟩ = some (.slice ad3 xL.length cp3) := fun w => (N3.out.1.keep w.below).cell rfl
  have r4 : ∀ w : Later y.val.heap.size y.val, w.val.cell? ⟨g4, 0, none⟩ = some (.int .i64 nU) := fun w => (N4.out.1.keep w.below).cell rfl
  have s4 : ∀ w : Later y.val.heap.size y.val, w.val.cell? ⟨g4, 1, none⟩ = some (.slice ad4 xU.length cp4) := fun w => (N4.out.1.keep w.below).cell rfl
  have r5 : ∀ w : Later y.val.heap.size y.val, w.val.cell? ⟨g5, 0, none⟩ = some (.int .i64 nG) := fun w => (N5.out.1.keep w.below).cell rfl
  have s5 : ∀ w : Later y.val.heap.size y.val, w.val.cell? ⟨g5, 1, none⟩ = some (.slice ad5 xG.length cp5) := fun w => (N5.out.1.keep w.below).cell rfl
  have r6 : ∀ w : Later y.val.heap.size y.val, w.val.cell? ⟨g6, 0, none⟩ = some (.int .i64 nL) := fun w => (N6.out.1.keep w.below).cell rfl
  have s6 : ∀ w : Later y.val.heap.size y.val, w.val.cell? ⟨g6, 1, none⟩ = some (.slice ad6 xL.length cp6) := fun w => (N6.out.1.keep w.below).cell rfl
  have KT1 : Hid (∀ w : Later y.val.heap.size y.val, Calls Try.prog 33 #[.agg #[.int .i64 nU, .slice ad4 xU.length cp4], .int .i64 eu, .agg #[.int .i64 nU, .slice ad1 xU.length cp1], .int .i64 eu] w.val (Ret y.val.heap.size y.val (.bool true))) := Lib.hid (fun w => c_told w nU nU xU xU ad4 ad1 cp4 cp1 eu eu N4.out.2 N1.out.2 (HL.out.1) rfl (told_ok (HZ.out.1)))
  have KT2 : Hid (∀ w : Later y.val.heap.size y.val, Calls Try.prog 33 #[.agg #[.int .i64 nG, .slice ad5 xG.length cp5], .int .i64 eg, .agg #[.int .i64 nG, .slice ad2 xG.length cp2], .int .i64 eg] w.val (Ret y.val.heap.size y.val (.bool true))) := Lib.hid (fun w => c_told w nG nG xG xG ad5 ad2 cp5 cp2 eg eg N5.out.2 N2.out.2 (HL.out.2.1) rfl (told_ok (HZ.out.2.1)))
  have KT3 : Hid (∀ w : Later y.val.heap.size y.val, Calls Try.prog 33 #[.agg #[.int .i64 nL, .slice ad6 xL.length cp6], .int .i64 el, .agg #[.int .i64 nL, .slice ad3 xL.length cp3], .int .i64 el] w.val (Ret y.val.heap.size y.val (.bool true))) := Lib.hid (fun w => c_told w nL nL xL xL ad6 ad3 cp6 cp3 el el N6.out.2 N3.out.2 (HL.out.2.2) rfl (told_ok (HZ.out.2.2)))
  have KG1 : Hid (Calls Try.prog 31 #[.agg #[.int .i64 ng, .slice ag es.length capg]] y.val (Ret y.val.heap.size y.val (.int .i64 eg))) := Lib.hid (by rw [HE.out.2.1]; exact c_checkGraph (Later.self y.val) ng es ag capg (HGs.out.to y) hleg)
  have KX1 : Hid (∀ w : Later y.val.heap.size y.val, Calls Try.prog 32 #[.agg #[.int .i64 px, .int .i64 cx, .slice ax rx.length capx]] w.val (Ret y.val.heap.size y.val (.int .i64 el))) := Lib.hid (fun w => by rw [HE.out.2.2]; exact c_checkMatrix w px cx rx ax capx (HXs.out.to y) hlx HRx.out)
  have HWW := Lib.hid (fun w : Later y.val.heap.size y.val => HV.out _ (hbV.up w))
  have l1 := q1y (Later.self _)
  have l2 := q2y (Later.self _)
  dsimp only [Later.self] at l1 l2
  clear N1 N2 N3 N4 N5 N6 HZ HL HE HV KCg KCx HXs HGs HRx q0 q1 q2 q3 q4 q5 T0 T1 T2 hbV PU PG PL
  go_wp2_with (first | (go_at_call 31; (with_reducible refine (KG1.out).mono ?_); rintro e _ ⟨rfl, w1, rfl⟩; have m3 := q3y w1; have m4 := q4y w1; have m5 := q5y w1) | (go_at_call 32; (with_reducible refine (KX1.out w1).mono ?_); rintro e _ ⟨rfl, w2, rfl⟩; have a1 := r1 w2; have a2 := s1 w2; have a3 := r4 w2; have a4 := s4 w2) | (go_at_call 33; (with_reducible refine (KT1.out w2).mono ?_); rintro e _ ⟨rfl, w3, rfl⟩; have b1 := r2 w3; have b2 := s2 w3; have b3 := r5 w3; have b4 := s5 w3) | (go_at_call 33; (with_reducible refine (KT2.out w3).mono ?_); rintro e _ ⟨rfl, w4, rfl⟩; have c1 := r3 w4; have c2 := s3 w4; have c3 := r6 w4; have c4 := s6 w4) | (go_at_call 33; (with_reducible refine (KT3.out w4).mono ?_); rintro e _ ⟨rfl, w5, rfl⟩) | fail)
  go_ret
  obtain ⟨x, hx⟩ := HWW.out w5
  rw [← hx]
  exact Ret.mk x rfl

end Go.Proofs.Ytffnpokceomncaa

namespace Go.Proofs.Ytffnpokceomncaa
open Go.RowKit
set_option linter.unusedVariables false

theorem those_lenK {m : Nat} (hm : m ≤ 8) (p : Nat → Bool) : (ints (those m p)).length ≤ 4611686018427387904 := by
  have h1 : (those m p).length ≤ bit m := by
    unfold those
    have := List.length_filter_le p (List.range (bit m))
    rwa [List.length_range] at this
  have := bit_le m hm
  rw [ints_len]
  omega

theorem law_kindsSays {B : Nat} {W : World} (u : Later B W) (rank n ng px cx : Int) (es : List (Int × Int)) (rx : Lls) (ag ax : Option Addr) (capg capx : Nat) (hg : EdgesAt B W ag es) (hleg : es.length ≤ 4611686018427387904) (hx : RowsI B W ax rx)
    (lx : rx.length ≤ 17592186044416 ∧ (∀ i, i < rx.length → (rx.getD i []).length ≤ 17592186044416) ∧ rx.length ≤ capx ∧ (ax = none → capx = 0)) :
    Calls Try.prog 5 #[.int .i64 rank, .int .i64 n, .agg #[.int .i64 ng, .slice ag es.length capg], .agg #[.int .i64 px, .int .i64 cx, .slice ax rx.length capx]] u.val (Ret B W (.bool true)) := by
  -- Uniform
  obtain ⟨nU, xU, zU, lU, pU, rU⟩ : ∃ (nU : Int) (xU : List Int), ZIf (errno (decide (isChoice n rank)) 1) nU xU ∧ xU.length ≤ 4611686018427387904 ∧
      (∀ (B : Nat) (W : World) (v : Later B W), Calls Try.prog 28 #[.int .i64 rank, .int .i64 n] v.val (RetP B W (MatTO B nU xU (errno (decide (isChoice n rank)) 1)))) ∧
      (errno (decide (isChoice n rank)) 1 = 0 → ∀ (B : Nat) (W : World) (v : Later B W) (gl : Nat), gl < B → W.cell? ⟨gl, 0, none⟩ = some (.int .i64 rank) → Calls Try.prog 23 #[.int .i64 n, .func (.func 24) #[] #[.pointer (some ⟨gl, 0, none⟩)]] v.val (RetP B W (MatO B nU xU))) := by
    by_cases hc : isChoice n rank
    · obtain ⟨m, rfl⟩ := Int.eq_ofNat_of_zero_le hc.1
      obtain ⟨k, rfl⟩ := Int.eq_ofNat_of_zero_le hc.2.2.1
      have hm : m ≤ 8 := by have := hc.2.1; omega
      have hk : k ≤ m := by have := hc.2.2.2; omega
      have he : errno (decide (isChoice (m : Int) (k : Int))) 1 = 0 := by rw [decide_eq_true hc]; rfl
      refine ⟨m, ints (those m (fun s => decide (sz s = k))), fun h => absurd he h, those_lenK hm _, fun B W v => ?_, fun _ B W v gl hgl hcl => ?_⟩
      · exact c_kUniform v k m _ m _ rfl (fun h => absurd he h) (fun _ => ⟨m, k, rfl, rfl, hm, hk, rfl, rfl⟩)
      · rw [uni_bases hm hk]
        refine c_ofRank v m hm 24 _ _ (fun args w => by kernel_rfl) (fun x y s hs => ?_)
        have hs8 : s < 256 := by have := bit_le m hm; omega
        have hxz := x.size
        exact c_uniTell y k gl (by omega) (by rw [x.cell (a := ⟨gl, 0, none⟩) hgl]; exact hcl) s hs8 (by omega)
    · have he : errno (decide (isChoice n rank)) 1 = 1 := by rw [decide_eq_false hc]; rfl
      refine ⟨0, [], fun _ => ⟨rfl, rfl⟩, by simp, fun B W v => ?_, fun h => by rw [he] at h; cases h⟩
      exact c_kUniform v rank n _ 0 [] rfl (fun _ => ⟨rfl, rfl⟩) (fun h => by rw [he] at h; cases h)
  -- Graphic
  obtain ⟨nG, xG, zG, lG, pG, rG⟩ : ∃ (nG : Int) (xG : List Int), ZIf (errno (decide (isGraph ng es)) 1) nG xG ∧ xG.length ≤ 4611686018427387904 ∧
      (∀ (B : Nat) (W : World) (v : Later B W), EdgesAt B W ag es → Calls Try.prog 29 #[.agg #[.int .i64 ng, .slice ag es.length capg]] v.val (RetP B W (MatTO B nG xG (errno (decide (isGraph ng es)) 1)))) ∧
      (errno (decide (isGraph ng es)) 1 = 0 → ∀ (B : Nat) (W : World) (v : Later B W), EdgesAt B W ag es → Calls Try.prog 26 #[.agg #[.int .i64 ng, .slice ag es.length capg]] v.val (RetP B W (MatO B nG xG))) := by
    by_cases hc : isGraph ng es
    · obtain ⟨m, rfl⟩ : ∃ m : Nat, ng = m := Int.eq_ofNat_of_zero_le (by have := hc.1; omega)
      have h8 : es.length ≤ 8 := hc.2.2.1
      have he : errno (decide (isGraph (m : Int) es)) 1 = 0 := by rw [decide_eq_true hc]; rfl
      refine ⟨es.length, ints (biggest (those es.length (forB m es))), fun h => absurd he h, ?_, fun B W v hE => ?_, fun _ B W v hE => ?_⟩
      · rw [graph_bases (Grf.of hc) h8]; exact those_lenK h8 _
      · exact c_kGraphic v m es ag capg _ _ _ hE hleg rfl (fun h => absurd he h) (fun _ => ⟨m, rfl, hc, rfl, rfl⟩)
      · rw [graph_bases (Grf.of hc) h8]
        exact c_refGraphic v m es ag capg hE hc
    · have he : errno (decide (isGraph ng es)) 1 = 1 := by rw [decide_eq_false hc]; rfl
      refine ⟨0, [], fun _ => ⟨rfl, rfl⟩, by simp, fun B W v hE => ?_, fun h => by rw [he] at h; cases h⟩
      exact c_kGraphic v ng es ag capg _ 0 [] hE hleg rfl (fun _ => ⟨rfl, rfl⟩) (fun h => by rw [he] at h; cases h)
  -- Linear
  obtain ⟨nL, xL, zL, lL, pL, rL⟩ : ∃ (nL : Int) (xL : List Int), ZIf (errno (decide (isMatrix px cx rx)) 1) nL xL ∧ xL.length ≤ 4611686018427387904 ∧
      (∀ (B : Nat) (W : World) (v : Later B W), RowsI B W ax rx → Calls Try.prog 30 #[.agg #[.int .i64 px, .int .i64 cx, .slice ax rx.length capx]] v.val (RetP B W (MatTO B nL xL (errno (decide (isMatrix px cx rx)) 1)))) ∧
      (errno (decide (isMatrix px cx rx)) 1 = 0 → ∀ (B : Nat) (W : World) (v : Later B W), RowsI B W ax rx → Calls Try.prog 27 #[.agg #[.int .i64 px, .int .i64 cx, .slice ax rx.length capx]] v.val (RetP B W (MatO B nL xL))) := by
    by_cases hc : isMatrix px cx rx
    · obtain ⟨P, rfl, hP⟩ := PrimeP.of hc.1
      obtain ⟨C, rfl⟩ := Int.eq_ofNat_of_zero_le hc.2.1.1
      have h8 : C ≤ 8 := by have := hc.2.1.2; omega
      have hN : rx.length ≤ 8 := by have := hc.2.2.1; omega
      have he : errno (decide (isMatrix (P : Int) (C : Int) rx)) 1 = 0 := by rw [decide_eq_true hc]; rfl
      have hbs : biggest (those C (linB P rx)) = those C (ofRank C (fun s => (rhoC P rx.length (ent rx) s : Int))) := col_bases hP hN h8
      refine ⟨C, ints (biggest (those C (linB P rx))), fun h => absurd he h, ?_, fun B W v hE => ?_, fun _ B W v hE => ?_⟩
      · rw [hbs]; exact those_lenK h8 _
      · exact c_kLinear v P C rx ax capx _ _ _ hE lx.1 lx.2.1 rfl (fun h => absurd he h) (fun _ => ⟨P, C, rfl, rfl, hP, hc, rfl, rfl⟩)
      · rw [hbs]
        exact c_refLinear v P C rx ax capx hE hP hc
    · have he : errno (decide (isMatrix px cx rx)) 1 = 1 := by rw [decide_eq_false hc]; rfl
      refine ⟨0, [], fun _ => ⟨rfl, rfl⟩, by simp, fun B W v hE => ?_, fun h => by rw [he] at h; cases h⟩
      exact c_kLinear v px cx rx ax capx _ 0 [] hE lx.1 lx.2.1 rfl (fun _ => ⟨rfl, rfl⟩) (fun h => by rw [he] at h; cases h)
  exact law_ks u rank n ng px cx es rx ag ax capg capx hg hleg hx lx.1 lx.2.1 _ _ _ nU nG nL xU xG xL rfl rfl rfl zU zG zL lU lG lL pU rU pG rG pL rL

end Go.Proofs.Ytffnpokceomncaa
