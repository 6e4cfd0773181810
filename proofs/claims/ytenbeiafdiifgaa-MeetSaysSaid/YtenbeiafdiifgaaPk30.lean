
/-
  meet.ranks, meet.both.
  What Common, Heaviest and Spanned answer, plainly. No program in sight.
-/
import Derived.Test.YtenbeiafdiifgaaPk43
import Derived.Test.YtenbeiafdiifgaaPk11
import Derived.Test.YtenbeiafdiifgaaPk13
import Derived.Test.YtenbeiafdiifgaaPk29
namespace Go.Proofs.Ytenbeiafdiifgaa
open Go.RowKit
set_option linter.unusedVariables false

set_option maxRecDepth 100000 in
set_option maxHeartbeats 4000000 in
theorem c_mtRanks {B : Nat} {W : World} (u : Later B W) (m : Nat) (hm : m ≤ 8) (l : List Int) (a : Option Addr) (cap : Nat) (h : IntsAt B W a l) (hlen : l.length ≤ 4611686018427387904) (he : MatIs (m : Int) l 0) :
    Calls Try.prog 24 #[.agg #[.int .i64 m, .slice a l.length cap]] u.val (RetP B W (fun v w => ∃ g c, v = .slice (some ⟨g, 0, none⟩) (bit m) c ∧ ITab w g (bit m) (fun j => (rk (toN l) j : Int)))) := by
  have T0 : Hid (Two (u.val.alloc (.cells #[.int .i64 m, .slice a l.length cap] 24)) u.val.heap.size 24 (.int .i64 m) (.slice a l.length cap)) := Lib.hid (Two.new _ _ _ _)
  have hrr : u.val.heap.size < (u.val.alloc (.cells #[.int .i64 m, .slice a l.length cap] 24)).heap.size := by simp
  have hI : IntsAt (u.val.alloc (.cells #[.int .i64 m, .slice a l.length cap] 24)).heap.size (u.val.alloc (.cells #[.int .i64 m, .slice a l.length cap] 24)) a l := h.to (u.alloc _)
  have HV : Hid (∀ v : Later (u.val.alloc (.cells #[.int .i64 m, .slice a l.length cap] 24)).heap.size (u.val.alloc (.cells #[.int .i64 m, .slice a l.length cap] 24)), ∃ w : Later B W, w.val = v.val) := Lib.hid (fun v => ⟨(u.alloc _).up v, rfl⟩)
  have q0 : ∀ w : Later (u.val.alloc (.cells #[.int .i64 m, .slice a l.length cap] 24)).heap.size (u.val.alloc (.cells #[.int .i64 m, .slice a l.length cap] 24)), w.val.cell? ⟨u.val.heap.size, 0, none⟩ = some (.int .i64 m) := fun w => (T0.out.keep w.below).c0
  have q1 : ∀ w : Later (u.val.alloc (.cells #[.int .i64 m, .slice a l.length cap] 24)).heap.size (u.val.alloc (.cells #[.int .i64 m, .slice a l.length cap] 24)), w.val.cell? ⟨u.val.heap.size, 1, none⟩ = some (.slice a l.length cap) := fun w => (T0.out.keep w.below).c1
  have p0 : (u.val.alloc (.cells #[.int .i64 m, .slice a l.length cap] 24)).cell? ⟨u.val.heap.size, 0, none⟩ = some (.int .i64 m) := T0.out.c0
  have p1 : (u.val.alloc (.cells #[.int .i64 m, .slice a l.length cap] 24)).cell? ⟨u.val.heap.size, 1, none⟩ = some (.slice a l.length cap) := T0.out.c1
  have KR : Hid (Calls Try.prog 34 #[.agg #[.int .i64 m, .slice a l.length cap]] (u.val.alloc (.cells #[.int .i64 m, .slice a l.length cap] 24)) (RetP (u.val.alloc (.cells #[.int .i64 m, .slice a l.length cap] 24)).heap.size (u.val.alloc (.cells #[.int .i64 m, .slice a l.length cap] 24)) (fun v w => ∃ g c, v = .tuple #[.slice (some ⟨g, 0, none⟩) (bit m) c, .int .i64 0] ∧ ITab w g (bit m) (fun j => (rk (toN l) j : Int))))) := Lib.hid (c_axRanks (Later.self (u.val.alloc (.cells #[.int .i64 m, .slice a l.length cap] 24))) m hm l a cap hI hlen he)
  clear h hI he
  go_enter Try.func24, Try.ntmps24
  go_wp2_with (first | (go_at_call 34; (with_reducible refine (KR.out).mono ?_); rintro e _ ⟨_, rfl, ⟨g, c, rfl, hT⟩, v1, rfl⟩))
  go_ret
  exact RetP.of (HV.out v1) ⟨g, c, rfl, hT⟩

/-- the answer of the check -/
noncomputable def meE (n : Int) (l : List Int) : Int := Classical.choose (MatIs.ex n l)
theorem meE_is (n : Int) (l : List Int) : MatIs n l (meE n l) := Classical.choose_spec (MatIs.ex n l)
theorem meE_eq {n : Int} {l : List Int} {e : Int} (h : MatIs n l e) : meE n l = e := by
  have h2 := meE_is n l
  by_cases c : okM n l
  · by_cases d : Exch (toN l)
    · rw [h.2.2 c d, h2.2.2 c d]
    · rw [h.2.1 c d, h2.2.1 c d]
  · rw [h.1 c, h2.1 c]
/-- what meet.both answers -/
def bothE (n1 n2 e1 e2 er : Int) : Prop := (e1 ≠ 0 ∧ er = e1) ∨ (e1 = 0 ∧ e2 ≠ 0 ∧ er = e2) ∨ (e1 = 0 ∧ e2 = 0 ∧ n1 ≠ n2 ∧ er = 3) ∨ (e1 = 0 ∧ e2 = 0 ∧ n1 = n2 ∧ er = 0)

set_option maxRecDepth 100000 in
set_option maxHeartbeats 8000000 in
theorem c_mtBoth {B : Nat} {W : World} (u : Later B W) (n1 n2 : Int) (l1 l2 : List Int) (a b : Option Addr) (cap capb : Nat) (e1 e2 er : Int) (h1 : IntsAt B W a l1) (h2 : IntsAt B W b l2) (hlen1 : l1.length ≤ 4611686018427387904) (hlen2 : l2.length ≤ 4611686018427387904) (he1 : MatIs n1 l1 e1) (he2 : MatIs n2 l2 e2) (hc : bothE n1 n2 e1 e2 er) :
    Calls Try.prog 23 #[.agg #[.int .i64 n1, .slice a l1.length cap], .agg #[.int .i64 n2, .slice b l2.length capb]] u.val (Ret B W (.int .i64 er)) := by
  have hs1 : (u.val.alloc (.cells #[.int .i64 n1, .slice a l1.length cap] 24)).heap.size = u.val.heap.size + 1 := by simp
  have HA : Hid (RowL ((u.val.alloc (.cells #[.int .i64 n1, .slice a l1.length cap] 24)).alloc (.cells #[.int .i64 n2, .slice b l2.length capb] 24)) u.val.heap.size 24 [.int .i64 n1, .slice a l1.length cap]) := Lib.hid ((RowL.new _ _ _).keep ((Below.refl _ _).alloc (Nat.le_refl _) _))
  have HB2 : Hid (RowL ((u.val.alloc (.cells #[.int .i64 n1, .slice a l1.length cap] 24)).alloc (.cells #[.int .i64 n2, .slice b l2.length capb] 24)) (u.val.heap.size + 1) 24 [.int .i64 n2, .slice b l2.length capb]) := Lib.hid (by
    have := RowL.new (u.val.alloc (.cells #[.int .i64 n1, .slice a l1.length cap] 24)) 24 [.int .i64 n2, .slice b l2.length capb]
    rwa [hs1] at this)
  have HVY : Hid (∀ v : Later ((u.val.alloc (.cells #[.int .i64 n1, .slice a l1.length cap] 24)).alloc (.cells #[.int .i64 n2, .slice b l2.length capb] 24)).heap.size ((u.val.alloc (.cells #[.int .i64 n1, .slice a l1.length cap] 24)).alloc (.cells #[.int .i64 n2, .slice b l2.length capb] 24)), ∃ w : Later B W, w.val = v.val) := Lib.hid (fun v => ⟨((u.alloc _).alloc _).up v, rfl⟩)
  have KC := Lib.hid (fun (v : Later ((u.val.alloc (.cells #[.int .i64 n1, .slice a l1.length cap] 24)).alloc (.cells #[.int .i64 n2, .slice b l2.length capb] 24)).heap.size ((u.val.alloc (.cells #[.int .i64 n1, .slice a l1.length cap] 24)).alloc (.cells #[.int .i64 n2, .slice b l2.length capb] 24))) (n' : Int) (l' : List Int) (a' : Option Addr) (c' : Nat) (h' : IntsAt ((u.val.alloc (.cells #[.int .i64 n1, .slice a l1.length cap] 24)).alloc (.cells #[.int .i64 n2, .slice b l2.length capb] 24)).heap.size ((u.val.alloc (.cells #[.int .i64 n1, .slice a l1.length cap] 24)).alloc (.cells #[.int .i64 n2, .slice b l2.length capb] 24)) a' l') (hl : l'.length ≤ 4611686018427387904) => c_axCheck v n' l' a' c' (meE n' l') h' hl (meE_is n' l'))
  have I1 : Hid (IntsAt ((u.val.alloc (.cells #[.int .i64 n1, .slice a l1.length cap] 24)).alloc (.cells #[.int .i64 n2, .slice b l2.length capb] 24)).heap.size ((u.val.alloc (.cells #[.int .i64 n1, .slice a l1.length cap] 24)).alloc (.cells #[.int .i64 n2, .slice b l2.length capb] 24)) a l1) := Lib.hid (h1.to ((u.alloc _).alloc _))
  have I2 : Hid (IntsAt ((u.val.alloc (.cells #[.int .i64 n1, .slice a l1.length cap] 24)).alloc (.cells #[.int .i64 n2, .slice b l2.length capb] 24)).heap.size ((u.val.alloc (.cells #[.int .i64 n1, .slice a l1.length cap] 24)).alloc (.cells #[.int .i64 n2, .slice b l2.length capb] 24)) b l2) := Lib.hid (h2.to ((u.alloc _).alloc _))
  have E1 := meE_eq he1
  have E2 := meE_eq he2
  have HC := Lib.hid hc
  clear h1 h2 he1 he2 hs1 hc
  go_enter Try.func23, Try.ntmps23
  go_upto_region 1 with fail
  generalize ((u.val.alloc (.cells #[.int .i64 n1, .slice a l1.length cap] 24)).alloc (.cells #[.int .i64 n2, .slice b l2.length capb] 24)) = Y at *
  generalize u.val.heap.size = g at *
  obtain ⟨y, hy⟩ : ∃ y : Later Y.heap.size Y, y.val = Y := ⟨Later.self _, rfl⟩
  have q0 : ∀ w : Later Y.heap.size Y, w.val.cell? ⟨g, 0, none⟩ = some (.int .i64 n1) := fun w => (HA.out.keep w.below).cell rfl
  have q1 : ∀ w : Later Y.heap.size Y, w.val.cell? ⟨g, 1, none⟩ = some (.slice a l1.length cap) := fun w => (HA.out.keep w.below).cell rfl
  have q2 : ∀ w : Later Y.heap.size Y, w.val.cell? ⟨g + 1, 0, none⟩ = some (.int .i64 n2) := fun w => (HB2.out.keep w.below).cell rfl
  have q3 : ∀ w : Later Y.heap.size Y, w.val.cell? ⟨g + 1, 1, none⟩ = some (.slice b l2.length capb) := fun w => (HB2.out.keep w.below).cell rfl
  rw [← hy]
  clear hy
  refine wp_region_later y (by kernel_rfl) (by kernel_rfl) (fun _ => ?_)
  repeat (first | go_big_quiet_step ((go_at_call 33; exact KC.out _ _ _ _ _ (by first | exact I1.out | exact I2.out) (by first | exact hlen1 | exact hlen2))) | (refine wpQuiet_step (fun K hK => ?_); go_simp; refine ⟨_, fun _ => rfl, ?_⟩; refine hK _ ?_; clear hK K))
  refine wpQuiet_nil ?_
  intro y
  have q0y := q0 y
  have q2y := q2 y
  have z0 : ((0 : Int) != 0) = false := rfl
  rcases HC.out with ⟨g1, rfl⟩ | ⟨rfl, g1, rfl⟩ | ⟨rfl, rfl, g1, rfl⟩ | ⟨rfl, rfl, rfl, rfl⟩
  · have d0 : (er != 0) = true := by rw [bne_iff_ne]; exact g1
    clear HC
    go_wp2
    go_ret
    exact Ret.of (HVY.out y) (by first | rfl | (rw [E1]; rfl))
  · have d0 : (er != 0) = true := by rw [bne_iff_ne]; exact g1
    clear HC
    go_wp2
    go_ret
    exact Ret.of (HVY.out y) (by first | rfl | (rw [E2]; rfl))
  · have d0 : (n1 != n2) = true := by rw [bne_iff_ne]; exact g1
    clear HC
    go_wp2
    go_ret
    exact Ret.of (HVY.out y) rfl
  · have d0 : (n1 != n1) = false := by simp
    clear HC
    go_wp2
    go_ret
    exact Ret.of (HVY.out y) rfl
end Go.Proofs.Ytenbeiafdiifgaa

namespace Go.Proofs.Ytenbeiafdiifgaa
set_option linter.unusedVariables false

/-- independent in both -/
def ComP (x y : Nat → Nat) (t : Nat) : Prop := x t = sz t ∧ y t = sz t
instance (x y : Nat → Nat) (t : Nat) : Decidable (ComP x y t) := by unfold ComP; exact inferInstance
/-- the first one of as many elements as any, of those below k -/
def setTo (x y : Nat → Nat) : Nat → Nat
  | 0 => 0
  | k + 1 => if ComP x y k ∧ sz (setTo x y k) < sz k then k else setTo x y k
theorem setTo_com {x y : Nat → Nat} (hx : x 0 = 0) (hy : y 0 = 0) (k : Nat) : ComP x y (setTo x y k) ∧ (setTo x y k < k ∨ setTo x y k = 0) := by
  induction k with
  | zero => exact ⟨⟨by rw [show setTo x y 0 = 0 from rfl, hx, sz_zero], by rw [show setTo x y 0 = 0 from rfl, hy, sz_zero]⟩, .inr rfl⟩
  | succ k ih =>
    unfold setTo
    by_cases c : ComP x y k ∧ sz (setTo x y k) < sz k
    · rw [if_pos c]; exact ⟨c.1, .inl (by omega)⟩
    · rw [if_neg c]; exact ⟨ih.1, by rcases ih.2 with h | h <;> omega⟩
theorem setTo_most {x y : Nat → Nat} : ∀ (k t : Nat), t < k → ComP x y t → sz t ≤ sz (setTo x y k) := by
  intro k
  induction k with
  | zero => intro t h; omega
  | succ k ih =>
    intro t ht hc
    unfold setTo
    by_cases e : t = k
    · subst e
      by_cases c : ComP x y t ∧ sz (setTo x y t) < sz t
      · rw [if_pos c]; omega
      · rw [if_neg c]
        by_cases d : sz (setTo x y t) < sz t
        · exact absurd ⟨hc, d⟩ c
        · omega
    · have := ih t (by omega) hc
      by_cases c : ComP x y k ∧ sz (setTo x y k) < sz k
      · rw [if_pos c]; omega
      · rw [if_neg c]; exact this
theorem setTo_le (x y : Nat → Nat) (k : Nat) : setTo x y k ≤ k := by
  induction k with
  | zero => exact Nat.le_refl _
  | succ k ih =>
    unfold setTo
    by_cases d : ComP x y k ∧ sz (setTo x y k) < sz k
    · rw [if_pos d]; omega
    · rw [if_neg d]; omega
theorem setTo_first {x y : Nat → Nat} : ∀ (k t : Nat), t < k → ComP x y t → sz t = sz (setTo x y k) → setTo x y k ≤ t := by
  intro k
  induction k with
  | zero => intro t h; omega
  | succ k ih =>
    intro t ht hc
    unfold setTo
    by_cases c : ComP x y k ∧ sz (setTo x y k) < sz k
    · rw [if_pos c]
      intro h
      by_cases e : t = k
      · omega
      · have := setTo_most k t (by omega) hc; omega
    · rw [if_neg c]
      intro h
      by_cases e : t = k
      · subst e
        exact setTo_le x y t
      · exact ih t (by omega) hc h
/-- the first set of a size that is independent in both -/
theorem setTo_eq {x y : Nat → Nat} {n t most : Nat} (hx : x 0 = 0) (hy : y 0 = 0) (hn : 0 < n) (hm : most = sz (setTo x y n)) (ht : t < n) (h1 : sz t = most) (h2 : x t = most) (h3 : y t = most) (hf : ∀ j, j < t → ¬ (sz j = most ∧ x j = most ∧ y j = most)) : t = setTo x y n := by
  have hle := setTo_first (x := x) (y := y) n t ht ⟨by omega, by omega⟩ (by omega)
  have hc := (setTo_com hx hy n).1
  by_cases e : setTo x y n < t
  · exact absurd ⟨hm.symm, by rw [hc.1]; exact hm.symm, by rw [hc.2]; exact hm.symm⟩ (hf _ e)
  · omega

/-- the first place that bars -/
def FirstB (n most : Nat) (x y : Nat → Nat) (b : Nat) : Prop := b < bit n ∧ x b + y (nand (bit n - 1) b) = most ∧ ∀ j, j < b → x j + y (nand (bit n - 1) j) ≠ most
theorem FirstB.uniq {n most : Nat} {x y : Nat → Nat} {b c : Nat} (h : FirstB n most x y b) (g : FirstB n most x y c) : b = c := by
  have h1 : ¬ b < c := fun e => g.2.2 b e h.2.1
  have h2 : ¬ c < b := fun e => h.2.2 c e g.2.1
  omega
/-- a set that bars a common one tells that none is greater -/
theorem most_of_bar {n s U : Nat} {x y : Nat → Nat} (hx : RkM n x) (hy : RkM n y) (hs : s < bit n) (h1 : x s = sz s) (h2 : y s = sz s) (hU : U < bit n) (hb : x U + y (nand (bit n - 1) U) = sz s) : sz s = sz (setTo x y (bit n)) := by
  have hc := setTo_com hx.zero hy.zero (bit n)
  have hp : 0 < bit n := by omega
  have hlt : setTo x y (bit n) < bit n := by rcases hc.2 with h | h <;> omega
  have g1 := bar_ge hx hy hlt hc.1.1 hc.1.2 hU
  have g2 := setTo_most (bit n) s hs ⟨h1, h2⟩
  omega

/-- the best of the numbers that are of a kind: of as good ones the least; none: -1 -/
def BestOn (P : Nat → Prop) (f : Nat → Int) (b : Int) : Prop := (b = -1 ∧ ∀ t, ¬ P t) ∨ ∃ t : Nat, b = t ∧ P t ∧ ∀ t', P t' → f t' ≤ f t ∧ (f t' = f t → t ≤ t')
theorem BestOn.uniq {P : Nat → Prop} {f : Nat → Int} {b c : Int} (h : BestOn P f b) (g : BestOn P f c) : b = c := by
  rcases h with ⟨rfl, h⟩ | ⟨t, rfl, h1, h2⟩ <;> rcases g with ⟨rfl, g⟩ | ⟨t', rfl, g1, g2⟩
  · rfl
  · exact absurd g1 (h _)
  · exact absurd h1 (g _)
  · have a1 := h2 _ g1
    have a2 := g2 _ h1
    have := a1.2 (by omega)
    have := a2.2 (by omega)
    omega
theorem BestOn.congr {P Q : Nat → Prop} {f : Nat → Int} {b : Int} (h : BestOn P f b) (e : ∀ t, P t ↔ Q t) : BestOn Q f b := by
  have : P = Q := funext fun t => propext (e t)
  rwa [← this]
theorem BestOn.none {P : Nat → Prop} {f : Nat → Int} (h : ∀ t, ¬ P t) : BestOn P f (-1) := .inl ⟨rfl, h⟩
/-- one more number, greater than all -/
theorem BestOn.up_no {P : Nat → Prop} {f : Nat → Int} {b : Int} {K : Nat} (h : BestOn (fun t => P t ∧ t < K) f b) (hK : ¬ P K) : BestOn (fun t => P t ∧ t < K + 1) f b :=
  h.congr (fun t => ⟨fun g => ⟨g.1, by omega⟩, fun g => ⟨g.1, by
    by_cases e : t = K
    · subst e; exact absurd g.1 hK
    · omega⟩⟩)
theorem BestOn.up_new {P : Nat → Prop} {f : Nat → Int} {b : Int} {K : Nat} (h : BestOn (fun t => P t ∧ t < K) f b) (hK : P K) (hb : b < 0 ∨ ∃ t : Nat, b = t ∧ f t < f K) : BestOn (fun t => P t ∧ t < K + 1) f K := by
  refine .inr ⟨K, rfl, ⟨hK, by omega⟩, fun t' ht' => ?_⟩
  by_cases e : t' = K
  · subst e; exact ⟨Int.le_refl _, fun _ => Nat.le_refl _⟩
  · rcases h with ⟨rfl, h⟩ | ⟨t, rfl, h1, h2⟩
    · exact absurd ⟨ht'.1, by omega⟩ (h t')
    · have := h2 t' ⟨ht'.1, by omega⟩
      rcases hb with hb | ⟨t0, h3, h4⟩
      · omega
      · have : t0 = t := by omega
        subst this
        exact ⟨by omega, fun g => by omega⟩
theorem BestOn.up_keep {P : Nat → Prop} {f : Nat → Int} {K t : Nat} (h : BestOn (fun t => P t ∧ t < K) f (t : Int)) (hle : f K ≤ f t) : BestOn (fun t => P t ∧ t < K + 1) f (t : Int) := by
  rcases h with ⟨h0, h⟩ | ⟨t0, h0, h1, h2⟩
  · omega
  · have : t0 = t := by omega
    subst this
    refine .inr ⟨t0, rfl, ⟨h1.1, by omega⟩, fun t' ht' => ?_⟩
    by_cases e : t' = K
    · subst e; exact ⟨hle, fun _ => by omega⟩
    · exact h2 t' ⟨ht'.1, by omega⟩
/-- one more number, less than all -/
theorem BestOn.down_no {P : Nat → Prop} {f : Nat → Int} {b : Int} {K : Nat} (h : BestOn (fun t => P t ∧ K + 1 ≤ t) f b) (hK : ¬ P K) : BestOn (fun t => P t ∧ K ≤ t) f b :=
  h.congr (fun t => ⟨fun g => ⟨g.1, by omega⟩, fun g => ⟨g.1, by
    by_cases e : t = K
    · subst e; exact absurd g.1 hK
    · omega⟩⟩)
theorem BestOn.down_new {P : Nat → Prop} {f : Nat → Int} {b : Int} {K : Nat} (h : BestOn (fun t => P t ∧ K + 1 ≤ t) f b) (hK : P K) (hb : b < 0 ∨ ∃ t : Nat, b = t ∧ f t ≤ f K) : BestOn (fun t => P t ∧ K ≤ t) f K := by
  refine .inr ⟨K, rfl, ⟨hK, by omega⟩, fun t' ht' => ⟨?_, fun _ => ht'.2⟩⟩
  by_cases e : t' = K
  · subst e; exact Int.le_refl _
  · rcases h with ⟨rfl, h⟩ | ⟨t, rfl, h1, h2⟩
    · exact absurd ⟨ht'.1, by omega⟩ (h t')
    · have := h2 t' ⟨ht'.1, by omega⟩
      rcases hb with hb | ⟨t0, h3, h4⟩
      · omega
      · have : t0 = t := by omega
        subst this
        omega
theorem BestOn.down_keep {P : Nat → Prop} {f : Nat → Int} {K t : Nat} (h : BestOn (fun t => P t ∧ K + 1 ≤ t) f (t : Int)) (hlt : f K < f t) : BestOn (fun t => P t ∧ K ≤ t) f (t : Int) := by
  rcases h with ⟨h0, h⟩ | ⟨t0, h0, h1, h2⟩
  · omega
  · have : t0 = t := by omega
    subst this
    refine .inr ⟨t0, rfl, ⟨h1.1, by omega⟩, fun t' ht' => ?_⟩
    by_cases e : t' = K
    · subst e; exact ⟨by omega, fun g => by omega⟩
    · exact h2 t' ⟨ht'.1, by omega⟩

/-- closed in both -/
def Shut2 (n : Nat) (x y : Nat → Nat) (s : Nat) : Prop := ∀ i, i < n → s.testBit i = false → x (s ||| bit i) ≠ x s ∧ y (s ||| bit i) ≠ y s
/-- the least closed set about s -/
def LeastS (n : Nat) (x y : Nat → Nat) (s r : Nat) : Prop := r < bit n ∧ sub s r ∧ Shut2 n x y r ∧ ∀ u, u < bit n → sub s u → Shut2 n x y u → sub r u
theorem LeastS.uniq {n : Nat} {x y : Nat → Nat} {s r q : Nat} (h : LeastS n x y s r) (g : LeastS n x y s q) : r = q := by
  have h1 := h.2.2.2 q g.1 g.2.1 g.2.2.1
  have h2 := g.2.2.2 r h.1 h.2.1 h.2.2.1
  apply Nat.eq_of_testBit_eq
  intro i
  rw [Bool.eq_iff_iff]
  exact ⟨h1 i, h2 i⟩
/-- what is closed and holds s holds what joins s -/
theorem shut_step {n : Nat} {x y : Nat → Nat} (hx : RkM n x) (hy : RkM n y) {s u i : Nat} (hs : s < bit n) (hu : u < bit n) (hi : i < n) (hsu : sub s u) (hS : Shut2 n x y u) (h : x (s ||| bit i) = x s ∨ y (s ||| bit i) = y s) : sub (s ||| bit i) u := by
  have hui : u.testBit i = true := by
    cases c : u.testBit i
    · have h2 := hS i hi c
      rcases h with h | h
      · exact absurd (hx.clos s u i hs hu hi hsu h) h2.1
      · exact absurd (hy.clos s u i hs hu hi hsu h) h2.2
    · rfl
  intro k hk
  rw [or_bit_testBit, Bool.or_eq_true, decide_eq_true_eq] at hk
  rcases hk with hk | rfl
  · exact hsu k hk
  · exact hui
end Go.Proofs.Ytenbeiafdiifgaa
