
/-
  Edges without a ring: the parts' names hang on one another (plain).
  kinds.forest$1: a vertex's last name.
  kinds.chosen: its function value, which calls itself.
-/
import Derived.Test.YtdieaijgoidocaaPk08
import Derived.Test.YtdieaijgoidocaaPk10
import Derived.Test.YtdieaijgoidocaaPk02
import Derived.Deep.CutRange
namespace Go.Proofs.Ytdieaijgoidocaa
open Go.RowKit
set_option linter.unusedVariables false

def itr (p : Nat → Nat) : Nat → Nat → Nat
  | 0, v => v
  | k + 1, v => itr p k (p v)
theorem itr_add (p : Nat → Nat) : ∀ k l v, itr p (k + l) v = itr p l (itr p k v)
  | 0, l, v => by rw [Nat.zero_add]; rfl
  | k + 1, l, v => by rw [show k + 1 + l = (k + l) + 1 by omega]; exact itr_add p k l (p v)
theorem itr_fix {p : Nat → Nat} {r : Nat} (h : p r = r) : ∀ k, itr p k r = r
  | 0 => rfl
  | k + 1 => by show itr p k (p r) = r; rw [h]; exact itr_fix h k
/-- r is v's last name -/
def Rt (p : Nat → Nat) (v r : Nat) : Prop := p r = r ∧ ∃ k, itr p k v = r
theorem Rt.self {p : Nat → Nat} {v : Nat} (h : p v = v) : Rt p v v := ⟨h, 0, rfl⟩
theorem Rt.one {p : Nat → Nat} {v r r' : Nat} (h : Rt p v r) (h' : Rt p v r') : r = r' := by
  obtain ⟨f, k, rfl⟩ := h
  obtain ⟨f', l, rfl⟩ := h'
  by_cases c : k ≤ l
  · have e : itr p l v = itr p k v := by rw [show l = k + (l - k) by omega, itr_add, itr_fix f]
    exact e.symm
  · have e : itr p k v = itr p l v := by rw [show k = l + (k - l) by omega, itr_add, itr_fix f']
    exact e
theorem Rt.step {p : Nat → Nat} {v r : Nat} (h : Rt p v r) : Rt p (p v) r := by
  obtain ⟨f, k, e⟩ := h
  cases k with
  | zero => have e : v = r := e; subst e; rw [f]; exact ⟨f, 0, rfl⟩
  | succ k => exact ⟨f, k, e⟩
theorem Rt.back {p : Nat → Nat} {v r : Nat} (h : Rt p (p v) r) : Rt p v r := by
  obtain ⟨f, k, e⟩ := h
  exact ⟨f, k + 1, e⟩
/-- a forest of names whose trees are the parts of J -/
structure UF (n : Nat) (p : Nat → Nat) (J : Nat → Nat → Prop) : Prop where
  lt : ∀ j, j < n → p j < n
  wf : ∃ d : Nat → Nat, ∀ j, j < n → p j ≠ j → d (p j) < d j
  jn : ∀ i j, i < n → j < n → (J i j ↔ ∃ r, Rt p i r ∧ Rt p j r)
theorem root_ex {n : Nat} {p : Nat → Nat} (hlt : ∀ j, j < n → p j < n) {d : Nat → Nat} (hd : ∀ j, j < n → p j ≠ j → d (p j) < d j) : ∀ k v, v < n → d v ≤ k → ∃ r, r < n ∧ Rt p v r := by
  intro k
  induction k with
  | zero =>
    intro v hv hk
    by_cases c : p v = v
    · exact ⟨v, hv, Rt.self c⟩
    · have := hd v hv c; omega
  | succ k ih =>
    intro v hv hk
    by_cases c : p v = v
    · exact ⟨v, hv, Rt.self c⟩
    · have := hd v hv c
      obtain ⟨r, hr, h⟩ := ih (p v) (hlt v hv) (by omega)
      exact ⟨r, hr, h.back⟩
theorem UF.root {n : Nat} {p : Nat → Nat} {J : Nat → Nat → Prop} (h : UF n p J) {v : Nat} (hv : v < n) : ∃ r, r < n ∧ Rt p v r := by
  obtain ⟨d, hd⟩ := h.wf
  exact root_ex h.lt hd (d v) v hv (Nat.le_refl _)
theorem UF.start (n : Nat) {J : Nat → Nat → Prop} (hJ : ∀ i j, i < n → j < n → (J i j ↔ i = j)) : UF n (fun j => j) J := by
  refine ⟨fun j h => h, ⟨fun _ => 0, fun j _ h => absurd rfl h⟩, fun i j hi hj => ?_⟩
  rw [hJ i j hi hj]
  constructor
  · intro h; subst h; exact ⟨i, Rt.self rfl, Rt.self rfl⟩
  · rintro ⟨r, h1, h2⟩
    exact ((Rt.self (p := fun j => j) (v := i) rfl).one h1).trans ((Rt.self (p := fun j => j) (v := j) rfl).one h2).symm
/-- a hangs on b from now on -/
def hang (p : Nat → Nat) (a b : Nat) : Nat → Nat := fun j => if j = a then b else p j
theorem hang_rt {p : Nat → Nat} {a b : Nat} (ha : p a = a) (hb : p b = b) (hne : a ≠ b) : ∀ k v r, itr p k v = r → p r = r → Rt (hang p a b) v (if r = a then b else r) := by
  have hbb : hang p a b b = b := by unfold hang; rw [if_neg (fun c => hne c.symm), hb]
  have hab : hang p a b a = b := by unfold hang; rw [if_pos rfl]
  intro k
  induction k with
  | zero =>
    intro v r e hr
    have e : v = r := e
    subst e
    by_cases c : v = a
    · subst c; rw [if_pos rfl]
      exact Rt.back (by rw [hab]; exact Rt.self hbb)
    · rw [if_neg c]
      exact Rt.self (by unfold hang; rw [if_neg c, hr])
  | succ k ih =>
    intro v r e hr
    have h := ih (p v) r e hr
    by_cases c : v = a
    · subst c; rw [ha] at h; exact h
    · exact Rt.back (by rw [show hang p a b v = p v by unfold hang; rw [if_neg c]]; exact h)
theorem UF.join {n : Nat} {p : Nat → Nat} {J J' : Nat → Nat → Prop} {A B a b : Nat} (h : UF n p J) (hA : A < n) (hB : B < n) (hb : b < n) (ra : Rt p A a) (rb : Rt p B b) (hne : a ≠ b) (hJ : ∀ i j, i < n → j < n → (J' i j ↔ J i j ∨ (J i A ∧ J j B) ∨ (J i B ∧ J j A))) : UF n (hang p a b) J' := by
  have hpa := ra.1
  have hpb := rb.1
  refine ⟨fun j hj => ?_, ?_, fun i j hi hj => ?_⟩
  · unfold hang; split
    · exact hb
    · exact h.lt j hj
  · obtain ⟨d, hd⟩ := h.wf
    classical
    refine ⟨fun j => if Rt p j a then d j + d b + 1 else d j, fun j hj hpj => ?_⟩
    have hnb : ¬ Rt p b a := fun c => hne (c.one (Rt.self hpb))
    by_cases c : j = a
    · subst c
      show (if Rt p (hang p j b j) j then _ else _) < (if Rt p j j then _ else _)
      rw [show hang p j b j = b by unfold hang; rw [if_pos rfl], if_neg hnb, if_pos (Rt.self hpa)]
      omega
    · have e : hang p a b j = p j := by unfold hang; rw [if_neg c]
      rw [e] at hpj
      have := hd j hj hpj
      show (if Rt p (hang p a b j) a then _ else _) < (if Rt p j a then _ else _)
      rw [e]
      by_cases c2 : Rt p j a
      · rw [if_pos c2.step, if_pos c2]; omega
      · rw [if_neg (fun c3 => c2 c3.back), if_neg c2]; exact this
  · obtain ⟨ri, hri, hi'⟩ := h.root hi
    obtain ⟨rj, hrj, hj'⟩ := h.root hj
    have key : ∀ {x y rx ry : Nat}, x < n → y < n → Rt p x rx → Rt p y ry → (J x y ↔ rx = ry) := fun hx hy h1 h2 => by
      rw [h.jn _ _ hx hy]
      constructor
      · rintro ⟨r, g1, g2⟩; exact (h1.one g1).trans (h2.one g2).symm
      · intro e; subst e; exact ⟨_, h1, h2⟩
    have ti := hang_rt hpa hpb hne _ i ri hi'.2.choose_spec hi'.1
    have tj := hang_rt hpa hpb hne _ j rj hj'.2.choose_spec hj'.1
    rw [hJ i j hi hj, key hi hj hi' hj', key hi hA hi' ra, key hj hB hj' rb, key hi hB hi' rb, key hj hA hj' ra]
    constructor
    · intro c
      refine ⟨_, ti, ?_⟩
      have : (if ri = a then b else ri) = (if rj = a then b else rj) := by
        rcases c with c | ⟨c1, c2⟩ | ⟨c1, c2⟩
        · rw [c]
        · rw [if_pos c1, if_neg (by rw [c2]; exact fun c => hne c.symm), c2]
        · rw [if_neg (by rw [c1]; exact fun c => hne c.symm), if_pos c2, c1]
      rw [this]; exact tj
    · rintro ⟨r, g1, g2⟩
      have e := (ti.one g1).trans (tj.one g2).symm
      by_cases c1 : ri = a
      · by_cases c2 : rj = a
        · exact .inl (c1.trans c2.symm)
        · rw [if_pos c1, if_neg c2] at e
          exact .inr (.inl ⟨c1, e.symm⟩)
      · by_cases c2 : rj = a
        · rw [if_neg c1, if_pos c2] at e
          exact .inr (.inr ⟨e, c2⟩)
        · rw [if_neg c1, if_neg c2] at e
          exact .inl e

/-- of how many parts -/
def rz (n : Nat) (es : List (Int × Int)) (x : Nat) : Nat := cntTo (lblT es x n) n
theorem rz_is {n : Nat} {es : List (Int × Int)} (hG : Grf n es) {x R : Nat} (hR : Reps n es x R) : rz n es x = sz R := isle_is hG hR
/-- the first k of s -/
def upto (s k : Nat) : Nat := s &&& (bit k - 1)
theorem upto_testBit (s k i : Nat) : (upto s k).testBit i = (s.testBit i && decide (i < k)) := by
  unfold upto; rw [Nat.testBit_and, testBit_all]
theorem upto_zero (s : Nat) : upto s 0 = 0 := Nat.eq_of_testBit_eq (fun i => by rw [upto_testBit]; simp)
theorem upto_yes {s k : Nat} (h : s.testBit k = true) : upto s (k + 1) = upto s k ||| bit k := Nat.eq_of_testBit_eq (fun i => by
  rw [Nat.testBit_or, upto_testBit, upto_testBit, testBit_bit]
  by_cases c : k = i
  · subst c; rw [h]; simp
  · rw [decide_eq_false c, Bool.or_false, show decide (i < k + 1) = decide (i < k) from decide_eq_decide.2 (by omega)])
theorem upto_no {s k : Nat} (h : s.testBit k = false) : upto s (k + 1) = upto s k := Nat.eq_of_testBit_eq (fun i => by
  rw [upto_testBit, upto_testBit]
  by_cases c : k = i
  · subst c; rw [h]; simp
  · rw [show decide (i < k + 1) = decide (i < k) from decide_eq_decide.2 (by omega)])
theorem upto_all {s m : Nat} (hs : s < bit m) : upto s m = s := Nat.eq_of_testBit_eq (fun i => by
  rw [upto_testBit]
  by_cases c : i < m
  · rw [decide_eq_true c, Bool.and_true]
  · rw [decide_eq_false c, Bool.and_false]
    exact (Nat.testBit_lt_two_pow (Nat.lt_of_lt_of_le hs (Nat.pow_le_pow_right (by decide) (by omega)))).symm)
/-- parts and edges, of the first k -/
def fsum (n : Nat) (es : List (Int × Int)) (s k : Nat) : Nat := rz n es (upto s k) + sz (upto s k)
/-- no ring -/
def forB (n : Nat) (es : List (Int × Int)) (s : Nat) : Bool := decide (rz n es s + sz s = n)
theorem fsum_zero {n : Nat} {es : List (Int × Int)} (hG : Grf n es) (s : Nat) : fsum n es s 0 = n := by
  unfold fsum
  rw [upto_zero]
  obtain ⟨R, hR⟩ := Reps.ex n es 0
  have hn8 : n ≤ 8 := by have := hG.n7; omega
  rw [rz_is hG hR, Reps.none hn8 hR, sz_all hn8, sz_zero]; rfl
theorem fsum_no {n : Nat} {es : List (Int × Int)} {s k : Nat} (h : s.testBit k = false) : fsum n es s (k + 1) = fsum n es s k := by
  unfold fsum; rw [upto_no h]
theorem fsum_yes {n : Nat} {es : List (Int × Int)} (hG : Grf n es) {s k : Nat} (hk : k < es.length) (hk8 : k < 8) (h : s.testBit k = true) (hj : ¬ Jn es (upto s k) (vA es k) (vB es k)) : fsum n es s (k + 1) = fsum n es s k := by
  unfold fsum
  rw [upto_yes h, sz_add hk8 (by rw [upto_testBit]; simp)]
  obtain ⟨R, hR⟩ := Reps.ex n es (upto s k)
  obtain ⟨R', hR'⟩ := Reps.ex n es (upto s k ||| bit k)
  have hn8 : n ≤ 8 := by have := hG.n7; omega
  have := Reps.less hG.ends hk hn8 (hG.lt k hk).1 (hG.lt k hk).2 hj hR hR'
  rw [rz_is hG hR, rz_is hG hR']; omega
theorem fsum_ring {n : Nat} {es : List (Int × Int)} (hG : Grf n es) {s k : Nat} (hk8 : k < 8) (h : s.testBit k = true) (hj : Jn es (upto s k) (vA es k) (vB es k)) : fsum n es s (k + 1) = fsum n es s k + 1 := by
  unfold fsum
  rw [upto_yes h, sz_add hk8 (by rw [upto_testBit]; simp)]
  obtain ⟨R, hR⟩ := Reps.ex n es (upto s k)
  obtain ⟨R', hR'⟩ := Reps.ex n es (upto s k ||| bit k)
  rw [rz_is hG hR, rz_is hG hR', Reps.same hj hR hR']; omega
theorem fsum_mono {n : Nat} {es : List (Int × Int)} (hG : Grf n es) {s k : Nat} (h8 : es.length ≤ 8) : ∀ l, k ≤ l → l ≤ es.length → fsum n es s k ≤ fsum n es s l
  | 0, hkl, _ => by rw [show k = 0 by omega]; exact Nat.le_refl _
  | l + 1, hkl, hl => by
    by_cases c : k = l + 1
    · rw [c]; exact Nat.le_refl _
    · refine Nat.le_trans (fsum_mono hG h8 l (by omega) (by omega)) ?_
      cases hb : s.testBit l
      · rw [fsum_no hb]; exact Nat.le_refl _
      · by_cases hj : Jn es (upto s l) (vA es l) (vB es l)
        · rw [fsum_ring hG (by omega) hb hj]; omega
        · rw [fsum_yes hG (by omega) (by omega) hb hj]; exact Nat.le_refl _
theorem forB_ring {n : Nat} {es : List (Int × Int)} (hG : Grf n es) {s k : Nat} (h8 : es.length ≤ 8) (hs : s < bit es.length) (hk : k < es.length) (h0 : fsum n es s k = n) (h : s.testBit k = true) (hj : Jn es (upto s k) (vA es k) (vB es k)) : forB n es s = false := by
  have h1 := fsum_ring hG (by omega) h hj
  have h2 := fsum_mono hG (s := s) (k := k + 1) h8 es.length (by omega) (Nat.le_refl _)
  have h3 : fsum n es s es.length = rz n es s + sz s := by unfold fsum; rw [upto_all hs]
  exact decide_eq_false (by omega)
theorem forB_end {n : Nat} {es : List (Int × Int)} {s : Nat} (hs : s < bit es.length) (h0 : fsum n es s es.length = n) : forB n es s = true := by
  have h3 : fsum n es s es.length = rz n es s + sz s := by unfold fsum; rw [upto_all hs]
  exact decide_eq_true (by omega)
theorem Jn.none {es : List (Int × Int)} {i j : Nat} : Jn es 0 i j ↔ i = j := by
  constructor
  · intro h
    have := h (bit i) (fun k _ c => by rw [Nat.zero_testBit] at c; cases c)
    rw [testBit_bit, testBit_bit, decide_eq_true rfl] at this
    exact of_decide_eq_true this.symm
  · rintro rfl; exact Jn.refl _ _ _
theorem Jn.step {n : Nat} {es : List (Int × Int)} (hG : Grf n es) {x e i j : Nat} (hel : e < es.length) (hi : i < n) (hj : j < n) : Jn es (x ||| bit e) i j ↔ Jn es x i j ∨ (Jn es x i (vA es e) ∧ Jn es x j (vB es e)) ∨ (Jn es x i (vB es e) ∧ Jn es x j (vA es e)) := by
  have hn := hG.n7
  constructor
  · exact Jn.more hG.ends hel (by omega) (by omega)
  · have hm : ∀ {a b}, Jn es x a b → Jn es (x ||| bit e) a b := fun h => Jn.mono (sub_or x (bit e)) h
    have he : Jn es (x ||| bit e) (vA es e) (vB es e) := Jn.edge hel (by rw [Nat.testBit_or, testBit_bit]; simp)
    rintro (h | ⟨h1, h2⟩ | ⟨h1, h2⟩)
    · exact hm h
    · exact ((hm h1).trans he).trans (hm h2).symm
    · exact ((hm h1).trans he.symm).trans (hm h2).symm

end Go.Proofs.Ytdieaijgoidocaa

namespace Go.Proofs.Ytdieaijgoidocaa
open Go.RowKit
set_option linter.unusedVariables false

/-- names in a table -/
def nm (p : Nat → Nat) : Nat → Int := fun j => (p j : Int)

set_option maxRecDepth 100000 in
set_option maxHeartbeats 4000000 in
theorem c_find {B : Nat} {W : World} (u : Later B W) (n : Nat) (hn : n ≤ 7) (p : Nat → Nat) (hlt : ∀ j, j < n → p j < n) (d : Nat → Nat) (hd : ∀ j, j < n → p j ≠ j → d (p j) < d j) (gt gb : Nat) (hT : ITab W gt n (nm p)) (hb : W.cell? ⟨gb, 0, none⟩ = some (.slice (some ⟨gt, 0, none⟩) n n)) (hgt : gt < B) (hgb : gb < B) (v r : Nat) (hv : v < n) (hr : Rt p v r) :
    Calls Try.prog 56 #[.int .i64 v, .pointer (some ⟨gb, 0, none⟩)] u.val (Ret B W (.int .i64 r)) := by
  have q0 : u.val.cell? ⟨gb, 0, none⟩ = some (.slice (some ⟨gt, 0, none⟩) n n) := by rw [u.cell (a := ⟨gb, 0, none⟩) hgb, hb]
  have HC : Hid (∀ j, j < n → u.val.cell? ⟨gt, j, none⟩ = some (.int .i64 (p j : Nat))) := Lib.hid (fun j hj => by rw [u.cell (a := ⟨gt, j, none⟩) hgt]; exact hT.cell hj)
  have HL := Lib.hid hlt
  have HD := Lib.hid hd
  have HR := Lib.hid hr
  clear hlt hd hT hb hr
  go_enter Try.func56, Try.ntmps56
  go_wp2
  go_loopw [0] (fun i wr => ∃ (x : Nat), x < n ∧ i = .int .i64 x ∧ wr = u.val ∧ Hid (Rt p x r)) (fun i _ => d (intOf i).toNat)
  case atStart => exact ⟨v, hv, rfl, rfl, HR⟩
  case round =>
    clear HR
    obtain ⟨x, hx, rfl, rfl, HR⟩ := hrel
    have c0 := HC.out x hx
    have hpx := HL.out x hx
    have HS : Hid (p x ≠ x → d (p x) < d x) := Lib.hid (HD.out x hx)
    have HN : Hid (Rt p (p x) r) := Lib.hid HR.out.step
    have HE : Hid (p x = x → x = r) := Lib.hid (fun h => (Rt.self h).one HR.out)
    generalize p x = y at *
    by_cases c : y = x
    · have e := HE.out c
      subst e
      subst c
      go_wp2
      go_ret
      exact Ret.mk u rfl
    · have b1 : ((y : Int) != (x : Int)) = true := by rw [bne_iff_ne]; omega
      have b2 : (y != x) = true := by rw [bne_iff_ne]; omega
      have HM := Lib.hid (HS.out c)
      have HCy := Lib.hid c
      clear HS HE c
      go_wp2
      go_roundw
      case rel => exact ⟨y, hpx, by go_num, trivial, HN⟩
      case measure => have := HM.out; simpa [intOf] using this

end Go.Proofs.Ytdieaijgoidocaa

namespace Go.Proofs.Ytdieaijgoidocaa
open Go.RowKit
set_option linter.unusedVariables false

theorem shr_andC (x k : Nat) (hx : x < 256) : bits .and .i64 ((x : Int) / 2 ^ k) 1 = (((x.testBit k).toNat : Nat) : Int) := by
  have e1 : ((x : Int) / 2 ^ k) = ((x / 2 ^ k : Nat) : Int) := by simp
  have h1 : x / 2 ^ k ≤ x := Nat.div_le_self _ _
  rw [e1]
  have := i64_and (x / 2 ^ k) 1 (by omega) (by omega)
  rw [show ((1 : Nat) : Int) = 1 from rfl] at this
  rw [this, Nat.and_one_is_mod, Nat.toNat_testBit]

set_option maxRecDepth 100000 in
set_option maxHeartbeats 8000000 in
theorem c_chosenFrom (B : Nat) (W : World) (l : List Nat) (hl : l.length ≤ 8) (hl8 : ∀ i, i < l.length → l.getD i 0 < 256) (a : Option Addr) (cap gl gf : Nat) (hI : IntsAt B W a (ints l)) (hgl : gl < B) (hgf : gf < B) (hcl : W.cell? ⟨gl, 0, none⟩ = some (.slice a (ints l).length cap)) (hcf : W.cell? ⟨gf, 0, none⟩ = some (.func (.func 39) #[] #[.pointer (some ⟨gl, 0, none⟩), .pointer (some ⟨gf, 0, none⟩)])) :
    ∀ n s : Nat, s ≤ n → s < 256 → ∀ used : Nat, used < 256 → ∀ u : Later B W, Calls Try.prog 39 #[.int .i64 s, .int .i64 used, .pointer (some ⟨gl, 0, none⟩), .pointer (some ⟨gf, 0, none⟩)] u.val (Ret B W (.bool (chs l (elems s) used))) := by
  have q0 : ∀ v : Later B W, v.val.cell? ⟨gl, 0, none⟩ = some (.slice a l.length cap) := fun v => by rw [v.cell hgl, hcl, ints_len]
  have q1 : ∀ v : Later B W, v.val.cell? ⟨gf, 0, none⟩ = some (.func (.func 39) #[] #[.pointer (some ⟨gl, 0, none⟩), .pointer (some ⟨gf, 0, none⟩)]) := fun v => by rw [v.cell hgf, hcf]
  have hp1 : ∀ (args : Array Value) (w : World), (callFunc 39 args).run Try.prog w = .ok (.enter 39 args) w := fun args w => by kernel_rfl
  have HI := Lib.hid hI
  have H8 := Lib.hid hl8
  clear hI hl8 hcl hcf
  intro n
  induction n with
  | zero =>
    intro s hs0 hs used hu u
    obtain rfl : s = 0 := by omega
    have e : chs l (elems 0) used = true := rfl
    rw [e]
    go_enter Try.func39, Try.ntmps39
    go_wp2
    go_ret
    exact Ret.mk u rfl
  | succ n ih =>
    intro s hsn hs used hu u
    by_cases h0 : s = 0
    · subst h0
      have e : chs l (elems 0) used = true := rfl
      rw [e]
      clear ih
      go_enter Try.func39, Try.ntmps39
      go_wp2
      go_ret
      exact Ret.mk u rfl
    obtain ⟨d, hd8, hel, hlow, hdl⟩ := elems_openK hs h0
    have hd1 := drop1_lt s hs
    have IH := Lib.hid (fun (used' : Nat) (h : used' < 256) (v : Later B W) => ih (drop1 s) (by omega) hd1 used' h v)
    clear ih
    have HR : Hid (chs l (elems s) used = true ↔ ∃ i, i < l.length ∧ used.testBit i = false ∧ (l.getD i 0).testBit d = true ∧ chs l (elems (drop1 s)) (used ||| bit i) = true) := Lib.hid (by
      rw [hel, chs, List.any_eq_true]
      constructor
      · rintro ⟨i, hi, h⟩
        rw [List.mem_range] at hi
        simp only [Bool.and_eq_true, Bool.not_eq_true'] at h
        exact ⟨i, hi, h.1.1, h.1.2, h.2⟩
      · rintro ⟨i, hi, h1, h2, h3⟩
        refine ⟨i, List.mem_range.2 hi, ?_⟩
        simp only [Bool.and_eq_true, Bool.not_eq_true']
        exact ⟨⟨h1, h2⟩, h3⟩)
    have d0 : ((s : Int) == 0) = false := by rw [beq_eq_false_iff_ne]; omega
    have o1 := i64_low s (by omega)
    have wn := IntWalk.i64_in (-(s : Int)) (by omega)
    have hll : low s < 256 := low_lt s hs
    have o2 := i64_andNot s (low s) (by omega) (by omega)
    have hdn : nand s (low s) = drop1 s := by
      rw [hlow]
      have h1 := elems_lowK
      obtain ⟨e, he8, hlow2, hte, hdb, hmin, _⟩ := low_facts s hs h0
      have hde : d = e := by
        have h := congrArg (fun x => x.testBit d) (hlow.symm.trans hlow2)
        simp only [testBit_bit, decide_true] at h
        exact (of_decide_eq_true h.symm).symm
      subst hde
      refine eq_of_bits (nand_lt _ _ 8 hs) hd1 (fun i hi => ?_)
      rw [hdb i hi, nand_testBit, testBit_bit]
      by_cases c : i = d
      · subst c; simp
      · simp [c, Ne.symm c]
    rw [hdn] at o2
    have HLow := Lib.hid hlow
    clear hdn hel hlow
    generalize hres : chs l (elems s) used = res at *
    clear hres
    generalize drop1 s = ds at *
    generalize low s = lw at *
    have q0u := q0 u
    go_enter Try.func39, Try.ntmps39
    go_wp2
    go_loopw [18] (fun iv wr => ∃ (k : Nat) (v : Later B W), k ≤ l.length ∧ iv = .int .i64 k ∧ wr = v.val ∧ Hid (∀ i, i < k → ¬ (used.testBit i = false ∧ (l.getD i 0).testBit d = true ∧ chs l (elems ds) (used ||| bit i) = true))) (fun i _ => l.length - (intOf i).toNat)
    case atStart => exact ⟨0, u, by omega, rfl, rfl, Lib.hid (fun i hi => by omega)⟩
    case round =>
      clear u q0u
      obtain ⟨k, v, hk, rfl, rfl, hf⟩ := hrel
      by_cases hlt : k < l.length
      · obtain ⟨b, off, rfl, hbB, hcell⟩ := HI.out.at (k := k) (by rw [ints_len]; exact hlt)
        have c0 : ∀ v : Later B W, v.val.cell? ⟨b, off + k, none⟩ = some (.int .i64 ((l.getD k 0 : Nat) : Int)) := fun v => by rw [← ints_getD]; exact hcell v k (by rw [ints_len]; exact hlt)
        have hx8 := H8.out k hlt
        have hm1 : Hid (k + 1 ≤ l.length) := Lib.hid hlt
        have HX : Hid (used.testBit k = false → (l.getD k 0).testBit d = true → chs l (elems ds) (used ||| bit k) = true → res = true) := Lib.hid (fun h1 h2 h3 => HR.out.2 ⟨k, hlt, h1, h2, h3⟩)
        have HY : Hid (¬ (used.testBit k = false ∧ (l.getD k 0).testBit d = true ∧ chs l (elems ds) (used ||| bit k) = true) → ∀ i, i < k + 1 → ¬ (used.testBit i = false ∧ (l.getD i 0).testBit d = true ∧ chs l (elems ds) (used ||| bit i) = true)) := Lib.hid (fun h i hi => by
          by_cases c : i = k
          · subst c; exact h
          · exact hf.out i (by omega))
        have s1 := shr_andC used k hu
        have o3 := i64_and (l.getD k 0) lw (by omega) (by omega)
        have hz : Hid (l.getD k 0 &&& lw = 0 ↔ (l.getD k 0).testBit d = false) := Lib.hid (by
          rw [HLow.out]
          constructor
          · intro h
            rw [Bool.eq_false_iff]; intro c
            exact and_ne_iff.2 ⟨d, c, by rw [testBit_bit]; simp⟩ h
          · intro h
            refine Classical.byContradiction fun c => ?_
            obtain ⟨j, h1, h2⟩ := and_ne_iff.1 c
            rw [testBit_bit, decide_eq_true_eq] at h2
            subst h2
            rw [h1] at h; cases h)
        have bc := bit_cast k
        rw [bc] at s1
        have bd := bit_lt k (by omega)
        have wb := IntWalk.i64_in (bit k : Int) (by omega)
        have o4 := i64_or used (bit k) (by omega) (by omega)
        have hor : used ||| bit k < 256 := Nat.or_lt_two_pow (n := 8) hu (by show bit k < 256; omega)
        have KC := Lib.hid (fun v => IH.out (used ||| bit k) hor v)
        have hand : l.getD k 0 &&& lw ≤ l.getD k 0 := Nat.and_le_left
        clear hcell hf
        have c0v := c0 v
        generalize l.getD k 0 = x at *
        go_upto_region 7 with fail
        rcases btf (used.testBit k) with t1 | t1
        · have HN := Lib.hid (HY.out (fun h => by rw [t1] at h; cases h.1))
          rw [t1] at s1
          clear HX HY t1 KC
          generalize x &&& lw = aw at *
          generalize used ||| bit k = uo at *
          refine wp_region_later v (by kernel_rfl) (by kernel_rfl) (fun _ => ?_)
          repeat (first | go_big_quiet_step ((fail)) | (refine wpQuiet_step (fun K hK => ?_); go_simp; refine ⟨_, fun _ => rfl, ?_⟩; refine hK _ ?_; clear hK K))
          refine wpQuiet_nil ?_
          intro v
          go_wp2
          go_roundw
          case rel => exact ⟨k+1, v, hm1.out, by go_num, rfl, HN⟩
          case measure => have := hm1.out; simp [intOf]; omega
        · rw [t1] at s1
          rcases ieq ((x &&& lw : Nat) : Int) 0 with ⟨h1, d1, e1⟩ | ⟨h1, d1, e1⟩
          · have HN := Lib.hid (HY.out (fun h => by have := hz.out.1 (by omega); rw [this] at h; cases h.2.1))
            have H1 := Lib.hid h1
            clear HX HY h1 KC t1 hz
            generalize x &&& lw = aw at *
            generalize used ||| bit k = uo at *
            obtain rfl : aw = 0 := by have := H1.out; omega
            refine wp_region_later v (by kernel_rfl) (by kernel_rfl) (fun _ => ?_)
            repeat (first | go_big_quiet_step ((fail)) | (refine wpQuiet_step (fun K hK => ?_); go_simp; refine ⟨_, fun _ => rfl, ?_⟩; refine hK _ ?_; clear hK K))
            refine wpQuiet_nil ?_
            intro v
            go_wp2
            go_roundw
            case rel => exact ⟨k+1, v, hm1.out, by go_num, rfl, HN⟩
            case measure => have := hm1.out; simp [intOf]; omega
          · have hxd : x.testBit d = true := by
              cases c : x.testBit d
              · exact absurd (by have := hz.out.2 c; omega) h1
              · rfl
            have H1 := Lib.hid h1
            rcases btf (chs l (elems ds) (used ||| bit k)) with g1 | g1
            · rw [g1] at KC
              have hr := HX.out t1 hxd g1
              subst hr
              clear HX HY h1 t1 hz hxd g1 HR
              generalize x &&& lw = aw at *
              generalize used ||| bit k = uo at *
              have hn : ¬ aw = 0 := by have := H1.out; omega
              have hnb : (aw == 0) = false := by simpa using hn
              have hnc : (aw != 0) = true := by simpa using hn
              refine wp_region_later v (by kernel_rfl) (by kernel_rfl) (fun _ => ?_)
              repeat (first | go_big_quiet_step ((first | (exact KC.out _))) | (refine wpQuiet_step (fun K hK => ?_); go_simp; refine ⟨_, fun _ => rfl, ?_⟩; refine hK _ ?_; clear hK K))
              refine wpQuiet_nil ?_
              intro v
              go_wp2
              go_ret
              exact Ret.mk v rfl
            · rw [g1] at KC
              have HN := Lib.hid (HY.out (fun h => by rw [g1] at h; cases h.2.2))
              clear HX HY h1 t1 hz hxd g1
              generalize x &&& lw = aw at *
              generalize used ||| bit k = uo at *
              have hn : ¬ aw = 0 := by have := H1.out; omega
              have hnb : (aw == 0) = false := by simpa using hn
              have hnc : (aw != 0) = true := by simpa using hn
              refine wp_region_later v (by kernel_rfl) (by kernel_rfl) (fun _ => ?_)
              repeat (first | go_big_quiet_step ((first | (exact KC.out _))) | (refine wpQuiet_step (fun K hK => ?_); go_simp; refine ⟨_, fun _ => rfl, ?_⟩; refine hK _ ?_; clear hK K))
              refine wpQuiet_nil ?_
              intro v
              go_wp2
              go_roundw
              case rel => exact ⟨k+1, v, hm1.out, by go_num, rfl, HN⟩
              case measure => have := hm1.out; simp [intOf]; omega
      · have hr : res = false := by
          cases c : res
          · rfl
          · obtain ⟨i, hi, h⟩ := HR.out.1 c
            exact absurd h (hf.out i (by omega))
        subst hr
        go_wp2
        go_ret
        exact Ret.mk v rfl

set_option maxRecDepth 100000 in
set_option maxHeartbeats 8000000 in
theorem c_chosen {B : Nat} {W : World} (u : Later B W) (l : List Nat) (hl : l.length ≤ 8) (hl8 : ∀ i, i < l.length → l.getD i 0 < 256) (a : Option Addr) (cap : Nat) (h : IntsAt B W a (ints l)) (s : Nat) (hs : s < 256) :
    Calls Try.prog 27 #[.int .i64 s, .slice a (ints l).length cap] u.val (Ret B W (.bool (chs l (elems s) 0))) := by
  have k1 : (u.val.alloc (.cells #[.slice a (ints l).length cap] 22)).heap.size = u.val.heap.size + 1 := by simp
  have X1 : RowAt1 ((u.val.alloc (.cells #[.slice a (ints l).length cap] 22)).alloc (.cells #[(Value.func (.func 39) #[] #[.pointer (some ⟨u.val.heap.size, 0, none⟩), .pointer (some ⟨u.val.heap.size + 1, 0, none⟩)])] 37)) u.val.heap.size 22 (.slice a (ints l).length cap) := (show RowAt1 (u.val.alloc (.cells #[.slice a (ints l).length cap] 22)) u.val.heap.size 22 (.slice a (ints l).length cap) from heap_alloc_new _ _).keep ((Below.refl _ _).alloc (Nat.le_refl _) _)
  have X2 : RowAt1 ((u.val.alloc (.cells #[.slice a (ints l).length cap] 22)).alloc (.cells #[(Value.func (.func 39) #[] #[.pointer (some ⟨u.val.heap.size, 0, none⟩), .pointer (some ⟨u.val.heap.size + 1, 0, none⟩)])] 37)) (u.val.heap.size + 1) 37 (Value.func (.func 39) #[] #[.pointer (some ⟨u.val.heap.size, 0, none⟩), .pointer (some ⟨u.val.heap.size + 1, 0, none⟩)]) := by
    have h : RowAt1 ((u.val.alloc (.cells #[.slice a (ints l).length cap] 22)).alloc (.cells #[(Value.func (.func 39) #[] #[.pointer (some ⟨u.val.heap.size, 0, none⟩), .pointer (some ⟨u.val.heap.size + 1, 0, none⟩)])] 37)) (u.val.alloc (.cells #[.slice a (ints l).length cap] 22)).heap.size 37 (Value.func (.func 39) #[] #[.pointer (some ⟨u.val.heap.size, 0, none⟩), .pointer (some ⟨u.val.heap.size + 1, 0, none⟩)]) := heap_alloc_new _ _
    rwa [k1] at h
  have hYs : ((u.val.alloc (.cells #[.slice a (ints l).length cap] 22)).alloc (.cells #[(Value.func (.func 39) #[] #[.pointer (some ⟨u.val.heap.size, 0, none⟩), .pointer (some ⟨u.val.heap.size + 1, 0, none⟩)])] 37)).heap.size = u.val.heap.size + 2 := by simp
  have KF : Hid (∀ v : Later ((u.val.alloc (.cells #[.slice a (ints l).length cap] 22)).alloc (.cells #[(Value.func (.func 39) #[] #[.pointer (some ⟨u.val.heap.size, 0, none⟩), .pointer (some ⟨u.val.heap.size + 1, 0, none⟩)])] 37)).heap.size ((u.val.alloc (.cells #[.slice a (ints l).length cap] 22)).alloc (.cells #[(Value.func (.func 39) #[] #[.pointer (some ⟨u.val.heap.size, 0, none⟩), .pointer (some ⟨u.val.heap.size + 1, 0, none⟩)])] 37)), Calls Try.prog 39 #[.int .i64 s, .int .i64 0, .pointer (some ⟨u.val.heap.size, 0, none⟩), .pointer (some ⟨u.val.heap.size + 1, 0, none⟩)] v.val (Ret ((u.val.alloc (.cells #[.slice a (ints l).length cap] 22)).alloc (.cells #[(Value.func (.func 39) #[] #[.pointer (some ⟨u.val.heap.size, 0, none⟩), .pointer (some ⟨u.val.heap.size + 1, 0, none⟩)])] 37)).heap.size ((u.val.alloc (.cells #[.slice a (ints l).length cap] 22)).alloc (.cells #[(Value.func (.func 39) #[] #[.pointer (some ⟨u.val.heap.size, 0, none⟩), .pointer (some ⟨u.val.heap.size + 1, 0, none⟩)])] 37)) (.bool (chs l (elems s) 0)))) := Lib.hid (fun v => c_chosenFrom ((u.val.alloc (.cells #[.slice a (ints l).length cap] 22)).alloc (.cells #[(Value.func (.func 39) #[] #[.pointer (some ⟨u.val.heap.size, 0, none⟩), .pointer (some ⟨u.val.heap.size + 1, 0, none⟩)])] 37)).heap.size ((u.val.alloc (.cells #[.slice a (ints l).length cap] 22)).alloc (.cells #[(Value.func (.func 39) #[] #[.pointer (some ⟨u.val.heap.size, 0, none⟩), .pointer (some ⟨u.val.heap.size + 1, 0, none⟩)])] 37)) l hl hl8 a cap u.val.heap.size (u.val.heap.size + 1) (h.to ((u.alloc _).alloc _)) (by omega) (by omega) X1.c0 X2.c0 s s (Nat.le_refl _) hs 0 (by decide) v)
  have HVY : Hid (∀ v : Later ((u.val.alloc (.cells #[.slice a (ints l).length cap] 22)).alloc (.cells #[(Value.func (.func 39) #[] #[.pointer (some ⟨u.val.heap.size, 0, none⟩), .pointer (some ⟨u.val.heap.size + 1, 0, none⟩)])] 37)).heap.size ((u.val.alloc (.cells #[.slice a (ints l).length cap] 22)).alloc (.cells #[(Value.func (.func 39) #[] #[.pointer (some ⟨u.val.heap.size, 0, none⟩), .pointer (some ⟨u.val.heap.size + 1, 0, none⟩)])] 37)), ∃ w : Later B W, w.val = v.val) := Lib.hid (fun v => ⟨((u.alloc _).alloc _).up v, rfl⟩)
  have q1 : ∀ v : Later ((u.val.alloc (.cells #[.slice a (ints l).length cap] 22)).alloc (.cells #[(Value.func (.func 39) #[] #[.pointer (some ⟨u.val.heap.size, 0, none⟩), .pointer (some ⟨u.val.heap.size + 1, 0, none⟩)])] 37)).heap.size ((u.val.alloc (.cells #[.slice a (ints l).length cap] 22)).alloc (.cells #[(Value.func (.func 39) #[] #[.pointer (some ⟨u.val.heap.size, 0, none⟩), .pointer (some ⟨u.val.heap.size + 1, 0, none⟩)])] 37)), v.val.cell? ⟨u.val.heap.size + 1, 0, none⟩ = some (Value.func (.func 39) #[] #[.pointer (some ⟨u.val.heap.size, 0, none⟩), .pointer (some ⟨u.val.heap.size + 1, 0, none⟩)]) := fun v => (X2.keep v.below).c0
  have hp1 : ∀ (args : Array Value) (w : World), (callFunc 39 args).run Try.prog w = .ok (.enter 39 args) w := fun args w => by kernel_rfl
  generalize chs l (elems s) 0 = res at *
  clear X1 X2 k1 hYs h
  have hsf := fun (a : Addr) (c : Array Value) (w : World) => run_store Try.prog w a (.func (.func 39) #[] c) .plain rfl
  go_enter Try.func27, Try.ntmps27
  go_upto_region 3 with fail
  generalize ((u.val.alloc (.cells #[.slice a (ints l).length cap] 22)).alloc (.cells #[(Value.func (.func 39) #[] #[.pointer (some ⟨u.val.heap.size, 0, none⟩), .pointer (some ⟨u.val.heap.size + 1, 0, none⟩)])] 37)) = Y at *
  generalize u.val.heap.size = gu at *
  obtain ⟨z, hz⟩ : ∃ z : Later Y.heap.size Y, z.val = Y := ⟨Later.self _, rfl⟩
  rw [← hz]
  clear hz
  go_wp2_with (first | ((with_reducible refine (KF.out _).mono ?_); rintro e _ ⟨rfl, v1, rfl⟩) | fail)
  go_ret
  exact Ret.of (HVY.out v1) rfl

end Go.Proofs.Ytdieaijgoidocaa
