
/-
  links.Ways's second function value; both together.
  links.Gammoid, links.Sets.
-/
import Derived.Test.YtnhpefcjgaimeaaPk43
import Derived.Test.YtnhpefcjgaimeaaPk33
namespace Go.Proofs.Ytnhpefcjgaimeaa
open Go.RowKit
set_option linter.unusedVariables false


set_option maxRecDepth 100000 in
set_option maxHeartbeats 4000000 in
theorem c_nextW0 (B bo : Nat) (W : World) (n : Nat) (es : List (Int × Int)) (a : Option Addr) (cap fr tw bg bf bt bn bon : Nat) (H : WyOk B bo W n es a cap fr tw bg bf bt bn bon) (ls : List Nat) (HK0 : ∀ x ls', x < n → ls = x :: ls' → elemsGe fr (x + 1) = ls' → OnP B bo W n es a cap fr tw bg bf bt bn bon (waysF n (edB es) tw ls') x ls'.length 8) :
    NxP B bo W n es a cap fr tw bg bf bt bn bon ls := by
  have hn7 : n ≤ 7 := by have := H.graph.2.1; omega
  have hbn := bit_le n (by omega)
  have qg0 : ∀ v : Aside B bo W, v.val.cell? ⟨bg, 0, none⟩ = some (.int .i64 n) := fun v => by rw [v.cell H.lt.2.1 H.ne.1]; exact H.cg0
  have qf : ∀ v : Aside B bo W, v.val.cell? ⟨bf, 0, none⟩ = some (.int .i64 fr) := fun v => by rw [v.cell H.lt.2.2.1 H.ne.2.1]; exact H.cf
  have qon : ∀ v : Aside B bo W, v.val.cell? ⟨bon, 0, none⟩ = some (.func (.func 27) #[] #[.pointer (some ⟨bt, 0, none⟩), .pointer (some ⟨bo, 0, none⟩), .pointer (some ⟨bn, 0, none⟩), .pointer (some ⟨bg, 0, none⟩), .pointer (some ⟨bon, 0, none⟩)]) := fun v => by rw [v.cell H.lt.2.2.2.2.2 H.ne.2.2.2.2]; exact H.con
  have hp1 : ∀ (args : Array Value) (w : World), (callFunc 27 args).run Try.prog w = .ok (.enter 27 args) w := fun _ _ => by kernel_rfl
  have hfr8 : fr < 256 := by have := H.hfr; omega
  have hfrn := H.hfr
  intro v x gone pre ado cpo hO hx hE hg hpre
  have HO := Lib.hid hO
  have HE := Lib.hid hE
  have K0 := Lib.hid HK0
  clear hO hE HK0
  have qgv := qg0 v
  have qfv := qf v
  go_enter Try.func30, Try.ntmps30
  go_wp2
  go_loopw [0] (fun i wr => ∃ (k : Nat), k ≤ n ∧ i = .int .i64 k ∧ wr = v.val ∧ Hid (elemsGe fr k = ls)) (fun i _ => n - (intOf i).toNat)
  case atStart => exact ⟨x, hx, by simp, by first | exact ⟨rfl, HE⟩ | exact ⟨trivial, HE⟩ | exact HE⟩
  case round =>
    clear HE hx x
    obtain ⟨k, hk, rfl, rfl, HE⟩ := hrel
    by_cases hkn : k < n
    · have s1 := shr_andC fr k hfr8
      have bk := bit_cast k
      have hbk := bit_lt k (by omega)
      rw [bk] at s1
      have hst := elemsGe_step fr (v := k) (by omega)
      rcases btf (fr.testBit k) with g1 | g1
      case inr =>
        rw [g1] at s1 hst
        have HE2 : Hid (elemsGe fr (k + 1) = ls) := Lib.hid (by rw [← HE.out, hst]; simp)
        clear hst
        go_wp2
        go_roundw
        case rel => exact ⟨k + 1, by omega, by go_num, by trivial, HE2⟩
        case measure => simp [intOf]; omega
      rw [g1] at s1 hst
      have hls : ls = k :: elemsGe fr (k + 1) := by rw [← HE.out, hst]; simp
      have KP := Lib.hid (K0.out k _ hkn hls rfl)
      have hwf := congrArg (fun l => waysF n (edB es) tw l gone) hls
      have hll := congrArg List.length hls
      rw [List.length_cons] at hll
      simp only [waysF] at hwf
      generalize elemsGe fr (k + 1) = l2 at *
      have e1 : ((k : Int) == (n : Int)) = false := by rw [beq_eq_false_iff_ne]; omega
      have e2 : (k == n) = false := by rw [beq_eq_false_iff_ne]; omega
      have s2 := shr_andC gone k (by omega)
      rw [bk] at s2
      clear hst HE hls
      generalize hres : waysF n (edB es) tw ls gone = res at *
      clear hres
      rcases btf (gone.testBit k) with g2 | g2
      case inl =>
        rw [g2] at s2
        have hr : res = none := by rw [hwf, g2]; rfl
        subst hr
        clear hwf g2 KP K0
        go_upto_region 5 with fail
        obtain ⟨z, hz⟩ : ∃ z : Later v.val.heap.size v.val, z.val = v.val := ⟨Later.self _, rfl⟩
        rw [← hz]
        clear hz
        refine wp_region_later z (by kernel_rfl) (by kernel_rfl) (fun _ => ?_)
        repeat (first | go_big_quiet_step ((fail)) | (refine wpQuiet_step (fun K hK => ?_); go_simp; refine ⟨_, fun _ => rfl, ?_⟩; refine hK _ ?_; clear hK K))
        refine wpQuiet_nil ?_
        intro z
        go_wp2
        go_ret
        exact ⟨v.past _ (z.below.mono v.base), ado, cpo, rfl, Kept.of z.below, NewB.refl _ _, .inr ⟨rfl, rfl, HO.out.keep z.below⟩⟩
      rw [g2] at s2
      have hgw : gone ||| bit k < bit n := or_lt_bit hg (bit_lt_bit hkn)
      have hfu2 : n + 1 ≤ 8 + sz (gone ||| bit k) := by omega
      rw [g2] at hwf
      simp only [Bool.false_eq_true, if_false] at hwf
      obtain ⟨vx, hvx⟩ : ∃ vx : Aside B bo W, vx.val = (v.val.alloc (.cells #[.int .i64 (k : Int)] 3)).drew := ⟨v.past _ (((Below.refl _ _).alloc v.base _).drew), rfl⟩
      have hkx : Hid (Kept bo (ownBlk ado) v.val vx.val) := Lib.hid (by rw [hvx]; exact Kept.of (((Below.refl _ _).alloc (Nat.le_refl _) _).drew))
      have hOx : Hid (OutW B bo vx.val ado cpo pre) := Lib.hid (by rw [hvx]; exact HO.out.keep (((Below.refl _ _).alloc (Nat.le_refl _) _).drew))
      have hRx : Hid (RowV vx.val bo (ownBlk ado) [k] (some ⟨v.val.heap.size, 0, none⟩) 1) := Lib.hid (by
        have hsz : vx.val.heap.size = v.val.heap.size + 1 := by rw [hvx]; simp
        have hcell : vx.val.cell? ⟨v.val.heap.size, 0, none⟩ = some (.int .i64 (k : Int)) := by
          have h1 : RowAt1 vx.val v.val.heap.size 3 (.int .i64 (k : Int)) := by rw [hvx]; exact heap_alloc_new v.val _
          exact h1.c0
        have hbo : bo < B := H.lt.1
        have hvB := v.base
        refine ⟨(by intro e; cases e), fun _ => ⟨v.val.heap.size, 0, rfl, (by omega), fun i hi => ?_⟩, fun a ha => ?_⟩
        · have hi0 : i = 0 := by simp [ints] at hi; omega
          subst hi0
          exact hcell
        · simp only [Option.some.injEq] at ha
          subst ha
          refine ⟨(by simp only; omega), (by simp only; omega), fun e => ?_⟩
          have := (HO.out.blk _ e).2.1
          simp only at this
          omega)
      have KI : Hid (Calls Try.prog 27 #[.slice (some ⟨v.val.heap.size, 0, none⟩) 1 1, .int .i64 ((gone ||| bit k : Nat) : Int), .int .i64 k, .pointer (some ⟨bt, 0, none⟩), .pointer (some ⟨bo, 0, none⟩), .pointer (some ⟨bn, 0, none⟩), .pointer (some ⟨bg, 0, none⟩), .pointer (some ⟨bon, 0, none⟩)] vx.val (fun e w' => ∃ (bb : Bool) (v' : Aside B bo W) (ad' : Option Addr) (cp' : Nat), e = .returned (.bool bb) ∧ w' = v'.val ∧ WyAns B bo W v ado res pre bb v' ad' cp')) := Lib.hid (by
        refine (KP.out vx [k] v.val.heap.size 0 1 (gone ||| bit k) pre ado cpo hOx.out hRx.out (by simp) (by simp) hkn hgw hfu2 (by omega)).mono ?_
        rintro e _ ⟨v', ad', cp', rfl, hk', hn', h⟩
        rw [← hwf] at h
        have hk2 := hkx.out.trans (NewB.refl _ _) hk'
        have hn2 : NewB v.val (ownBlk ado) (ownBlk ad') := hn'.elim .inl (fun ⟨g, e1, e2⟩ => .inr ⟨g, e1, Nat.le_trans hkx.out.size e2⟩)
        rcases h with ⟨r', h1, h2, h3⟩ | ⟨h1, h2, h3⟩
        · exact ⟨true, v', ad', cp', h2, rfl, hk2, hn2, .inl ⟨rfl, r', h1, h3⟩⟩
        · exact ⟨false, v', ad', cp', h2, rfl, hk2, hn2, .inr ⟨rfl, h1, h3⟩⟩)
      rw [hvx] at KI
      clear KP K0 hkx hOx hRx hvx vx hwf g2
      have o1 := i64_or gone (bit k) (by omega) (by omega)
      have w1 := IntWalk.i64_in (bit k : Int) (by omega)
      have f1 : v.val.drew.cell? ⟨bon, 0, none⟩ = some (.func (.func 27) #[] #[.pointer (some ⟨bt, 0, none⟩), .pointer (some ⟨bo, 0, none⟩), .pointer (some ⟨bn, 0, none⟩), .pointer (some ⟨bg, 0, none⟩), .pointer (some ⟨bon, 0, none⟩)]) := qon v
      have f2 : (v.val.alloc (.cells #[.int .i64 (k : Int)] 3)).drew.cell? ⟨bon, 0, none⟩ = some (.func (.func 27) #[] #[.pointer (some ⟨bt, 0, none⟩), .pointer (some ⟨bo, 0, none⟩), .pointer (some ⟨bn, 0, none⟩), .pointer (some ⟨bg, 0, none⟩), .pointer (some ⟨bon, 0, none⟩)]) := qon (v.past _ (((Below.refl _ _).alloc v.base _).drew))
      go_upto_region 5 with fail
      go_region_held3 (fun w' => w'.cell? ⟨bon, 0, none⟩ = some (.func (.func 27) #[] #[.pointer (some ⟨bt, 0, none⟩), .pointer (some ⟨bo, 0, none⟩), .pointer (some ⟨bn, 0, none⟩), .pointer (some ⟨bg, 0, none⟩), .pointer (some ⟨bon, 0, none⟩)])) (first | exact f1 | exact f2 | exact qon v4) (first | (go_at_call 27; ((with_reducible refine (KI.out).mono ?_); rintro e _ ⟨bb, v4, ad4, cp4, rfl, rfl, hA4⟩)))
      all_goals
        obtain ⟨hk4, hn4, h4⟩ := hA4
        rcases h4 with ⟨rfl, r, h5, hO4⟩ | ⟨rfl, h5, hO4⟩
        · go_wp2
          go_ret
          exact ⟨v4, ad4, cp4, rfl, hk4, hn4, .inl ⟨r, h5, rfl, hO4⟩⟩
        · go_wp2
          go_ret
          exact ⟨v4, ad4, cp4, rfl, hk4, hn4, .inr ⟨h5, rfl, hO4⟩⟩
    · have hke : k = n := by omega
      subst hke
      have hls : ls = [] := by rw [← HE.out]; exact elemsGe_end (fun i hi => bit_lt_of (by omega) hfrn hi)
      subst hls
      go_wp2
      go_ret
      exact ⟨v, ado, cpo, rfl, Kept.refl _ _ _, NewB.refl _ _, .inl ⟨[], rfl, rfl, by rw [List.append_nil]; exact HO.out⟩⟩

theorem c_nextW (B bo : Nat) (W : World) (n : Nat) (es : List (Int × Int)) (a : Option Addr) (cap fr tw bg bf bt bn bon : Nat) (H : WyOk B bo W n es a cap fr tw bg bf bt bn bon) : ∀ ls : List Nat, ls.length ≤ 7 → NxP B bo W n es a cap fr tw bg bf bt bn bon ls := by
  intro ls
  induction ls with
  | nil => exact fun _ => c_nextW0 B bo W n es a cap fr tw bg bf bt bn bon H [] (fun x ls' _ h => by cases h)
  | cons y l ih =>
    intro hl
    rw [List.length_cons] at hl
    refine c_nextW0 B bo W n es a cap fr tw bg bf bt bn bon H (y :: l) (fun x ls' hx h he => ?_)
    simp only [List.cons.injEq] at h
    obtain ⟨rfl, rfl⟩ := h
    exact c_onW B bo W n es a cap fr tw bg bf bt bn bon H l y hx he (by omega) (ih (by omega)) 8

end Go.Proofs.Ytnhpefcjgaimeaa

namespace Go.Proofs.Ytnhpefcjgaimeaa
open Go.RowKit
set_option linter.unusedVariables false

/-- a matroid, whose list the call owns, and an error -/
def MatTG (B : Nat) (n : Int) (xs : List Int) (er : Int) (v : Value) (w : World) : Prop := ∃ ad cp, v = .tuple #[.agg #[.int .i64 n, .slice ad xs.length cp], .int .i64 er] ∧ Own B w ad cp xs
theorem lk_one {n t : Int} {es : List (Int × Int)} : lkOk n es [t] ↔ isGraph n es ∧ 0 ≤ t ∧ t < bit n.toNat := by
  constructor
  · rintro ⟨h1, h2⟩
    exact ⟨h1, h2 0 (by simp)⟩
  · rintro ⟨h1, h2⟩
    refine ⟨h1, fun i hi => ?_⟩
    simp at hi
    subst hi
    exact h2
/-- the argument list of one set -/
theorem lit_one {B : Nat} {W : World} (v : Later B W) (t : Int) : IntsAt (v.val.alloc (.cells #[.int .i64 t] 3)).heap.size (v.val.alloc (.cells #[.int .i64 t] 3)) (some ⟨v.val.heap.size, 0, none⟩) [t] :=
  (Own.lit (B := v.val.heap.size) (Nat.le_refl _) t).reads

end Go.Proofs.Ytnhpefcjgaimeaa
