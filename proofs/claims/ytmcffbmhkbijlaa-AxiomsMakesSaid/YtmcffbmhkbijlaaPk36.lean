
/-
  convex.Check and rotaref.Antimatroid: both say the same of a family (ChkIs): 1, it is no family; 3, it is no antimatroid; 0.
  sets.Least, sets.Most: the least and the greatest sets of a family.
-/
import Derived.Test.YtmcffbmhkbijlaaPk04
import Derived.Test.YtmcffbmhkbijlaaPk01
import Derived.Test.YtmcffbmhkbijlaaPk30
import Derived.Test.YtmcffbmhkbijlaaPk20
import Derived.Test.YtmcffbmhkbijlaaPk19
import Derived.IntWalk
namespace Go.Proofs.Ytmcffbmhkbijlaa
open Go.RowKit
set_option linter.unusedVariables false

/-- a number of a family is a set -/
theorem fam_nat {n : Int} {l : List Int} (h : isFam n l) {i : Nat} (hi : i < l.length) : ∃ s : Nat, l.getD i 0 = s ∧ s < 256 ∧ (s : Int) ≤ all n ∧ (s : Int) ∈ l := by
  obtain ⟨h0, h1, _⟩ := h.2.2 i hi
  have := (all_le n h.2.1).2
  refine ⟨(l.getD i 0).toNat, by omega, by omega, by omega, ?_⟩
  rw [Int.toNat_of_nonneg h0]
  simp [hi]
theorem mem_idx {l : List Int} {x : Int} (h : x ∈ l) : ∃ i, i < l.length ∧ l.getD i 0 = x := by
  obtain ⟨i, hi, e⟩ := List.getElem_of_mem h
  exact ⟨i, hi, by simp [hi, e]⟩
theorem fam_mem {n : Int} {l : List Int} (h : isFam n l) {x : Int} (hx : x ∈ l) : 0 ≤ x ∧ x ≤ all n := by
  obtain ⟨i, hi, e⟩ := mem_idx hx
  have := h.2.2 i hi
  rw [e] at this
  exact ⟨this.1, this.2.1⟩

def down (l : List Int) (s : Nat) : Prop := s = 0 ∨ ∃ e, e < 8 ∧ s.testBit e = true ∧ ((s - bit e : Nat) : Int) ∈ l
def joinsAt (l : List Int) (s : Nat) : Prop := ∀ t : Nat, (t : Int) ∈ l → ((s ||| t : Nat) : Int) ∈ l
def Good (n : Int) (l : List Int) : Prop := (0 : Int) ∈ l ∧ all n ∈ l ∧ ∀ s : Nat, (s : Int) ∈ l → down l s ∧ joinsAt l s
/-- what the check of a family answers -/
def ChkIs (n : Int) (l : List Int) (e : Int) : Prop := (¬ isFam n l → e = 1) ∧ (isFam n l → ¬ Good n l → e = 3) ∧ (isFam n l → Good n l → e = 0)
theorem ChkIs.ex (n : Int) (l : List Int) : ∃ e, ChkIs n l e := by
  by_cases h : isFam n l
  · by_cases g : Good n l
    · exact ⟨0, fun x => absurd h x, fun _ x => absurd g x, fun _ _ => rfl⟩
    · exact ⟨3, fun x => absurd h x, fun _ _ => rfl, fun _ x => absurd x g⟩
  · exact ⟨1, fun _ => rfl, fun x => absurd x h, fun x => absurd x h⟩

/-- first and last of a family -/
theorem fam_first {n : Int} {l : List Int} (h : isFam n l) : (0 : Int) ∈ l ↔ 0 < l.length ∧ l.getD 0 0 = 0 := by
  constructor
  · intro hm
    obtain ⟨i, hi, e⟩ := mem_idx hm
    refine ⟨by omega, ?_⟩
    by_cases c : i = 0
    · rw [c] at e; exact e
    · have := h.2.2.rising 0 i (by omega) hi
      have := (h.2.2 0 (by omega)).1
      omega
  · rintro ⟨h1, h2⟩
    have : l.getD 0 0 ∈ l := by simp [h1]
    rw [h2] at this; exact this
theorem fam_last {n : Int} {l : List Int} (h : isFam n l) : all n ∈ l ↔ 0 < l.length ∧ l.getD (l.length - 1) 0 = all n := by
  constructor
  · intro hm
    obtain ⟨i, hi, e⟩ := mem_idx hm
    refine ⟨by omega, ?_⟩
    by_cases c : i = l.length - 1
    · rw [c] at e; exact e
    · have := h.2.2.rising i (l.length - 1) (by omega) (by omega)
      have := (h.2.2 (l.length - 1) (by omega)).2.1
      omega
  · rintro ⟨h1, h2⟩
    have : l.getD (l.length - 1) 0 ∈ l := by simp [show l.length - 1 < l.length by omega]
    rw [h2] at this; exact this

/-- the bits that have been gone through: those of s that t no longer has -/
def downTo (l : List Int) (s t : Nat) : Prop := s = 0 ∨ ∃ e, e < 8 ∧ s.testBit e = true ∧ t.testBit e = false ∧ ((s - bit e : Nat) : Int) ∈ l
def subBits (t s : Nat) : Prop := ∀ i, i < 8 → t.testBit i = true → s.testBit i = true
theorem subBits_refl (s : Nat) : subBits s s := fun _ _ h => h
theorem subBits_drop {t s : Nat} (ht : t < 256) (h0 : t ≠ 0) (h : subBits t s) : subBits (drop1 t) s := by
  obtain ⟨e, he, _, h2, h3, _⟩ := low_facts t ht h0
  intro i hi hb
  rw [h3 i hi] at hb
  exact h i hi (by simp at hb; exact hb.1)
theorem downTo_start (l : List Int) (s : Nat) : downTo l s s ↔ s = 0 := by
  constructor
  · rintro (h | ⟨e, _, h1, h2, _⟩)
    · exact h
    · rw [h1] at h2; cases h2
  · exact .inl
theorem downTo_end (l : List Int) (s : Nat) : downTo l s 0 ↔ down l s := by
  unfold downTo down
  simp
/-- one step of the walk over the bits of s -/
theorem downTo_step {l : List Int} {s t : Nat} (hs : s < 256) (ht : t < 256) (h0 : t ≠ 0) (hsub : subBits t s) : downTo l s (drop1 t) ↔ downTo l s t ∨ ((nand s (low t) : Nat) : Int) ∈ l := by
  obtain ⟨e, he, h1, h2, h3, h4, _⟩ := low_facts t ht h0
  have hse := hsub e he h2
  rw [h1, nand_bit s e hs he hse]
  unfold downTo
  constructor
  · rintro (h | ⟨i, hi, a, b, c⟩)
    · exact .inl (.inl h)
    · rw [h3 i hi] at b
      by_cases hie : i = e
      · subst hie; exact .inr c
      · simp [hie] at b
        exact .inl (.inr ⟨i, hi, a, b, c⟩)
  · rintro ((h | ⟨i, hi, a, b, c⟩) | h)
    · exact .inl h
    · exact .inr ⟨i, hi, a, by rw [h3 i hi, b]; rfl, c⟩
    · exact .inr ⟨e, he, hse, by rw [h3 e he]; simp, h⟩

theorem joins_step {l : List Int} {s : Nat} {k : Nat} {t : Nat} (h : ∀ j, j < k → ∀ t : Nat, l.getD j 0 = t → ((s ||| t : Nat) : Int) ∈ l) (hk : l.getD k 0 = t) (hm : ((s ||| t : Nat) : Int) ∈ l) : ∀ j, j < k + 1 → ∀ t : Nat, l.getD j 0 = t → ((s ||| t : Nat) : Int) ∈ l := by
  intro j hj t' ht'
  by_cases e : j = k
  · subst e; rw [hk] at ht'; have : t' = t := by omega
    rw [this]; exact hm
  · exact h j (by omega) t' ht'
theorem joins_end {l : List Int} {s : Nat} (h : ∀ j, j < l.length → ∀ t : Nat, l.getD j 0 = t → ((s ||| t : Nat) : Int) ∈ l) : joinsAt l s := by
  intro t ht
  obtain ⟨j, hj, e⟩ := mem_idx ht
  exact h j hj t e
theorem good_end {n : Int} {l : List Int} (h1 : (0 : Int) ∈ l) (h2 : all n ∈ l) (h : ∀ j, j < l.length → ∀ s : Nat, l.getD j 0 = s → down l s ∧ joinsAt l s) : Good n l := by
  refine ⟨h1, h2, fun s hs => ?_⟩
  obtain ⟨j, hj, e⟩ := mem_idx hs
  exact h j hj s e
theorem good_step {l : List Int} {k s : Nat} (h : ∀ j, j < k → ∀ s : Nat, l.getD j 0 = s → down l s ∧ joinsAt l s) (hk : l.getD k 0 = s) (hs : down l s ∧ joinsAt l s) : ∀ j, j < k + 1 → ∀ s : Nat, l.getD j 0 = s → down l s ∧ joinsAt l s := by
  intro j hj t ht
  by_cases e : j = k
  · subst e; rw [hk] at ht; have : t = s := by omega
    rw [this]; exact hs
  · exact h j (by omega) t ht

end Go.Proofs.Ytmcffbmhkbijlaa

namespace Go.Proofs.Ytmcffbmhkbijlaa
open Go.RowKit
set_option linter.unusedVariables false

set_option maxRecDepth 100000 in
set_option maxHeartbeats 4000000 in
theorem c_setsLeastTell {B : Nat} {W : World} (u : Later B W) (t s g : Nat) (ht : t < 256) (hs : s < 256) (hg : g < B) (hc : W.cell? ⟨g, 0, none⟩ = some (.int .i64 s)) :
    Calls Try.prog 67 #[.int .i64 t, .pointer (some ⟨g, 0, none⟩)] u.val (Ret B W (.bool (decide (t ≠ s ∧ t &&& s = t)))) := by
  have q0 : u.val.cell? ⟨g, 0, none⟩ = some (.int .i64 s) := by rw [u.cell hg, hc]
  have o1 := i64_and t s (by omega) (by omega)
  have HR : Hid (((t : Int) != (s : Int) && (((t &&& s : Nat) : Int) == (t : Int))) = decide (t ≠ s ∧ t &&& s = t)) := Lib.hid (by
    rw [Bool.eq_iff_iff]; simp; omega)
  clear hc
  generalize decide (t ≠ s ∧ t &&& s = t) = r at *
  generalize t &&& s = z at *
  rcases ieq (t : Int) s with ⟨g1, d1, d2⟩ | ⟨g1, d1, d2⟩
  · have hr : r = false := by rw [← HR.out, d2]; rfl
    subst hr
    clear HR
    go_enter Try.func67, Try.ntmps67
    go_wp2
    go_ret
    exact Ret.mk u rfl
  · have hr : Hid (((z : Int) == (t : Int)) = r) := Lib.hid (by rw [← HR.out, d2]; rfl)
    clear HR
    go_enter Try.func67, Try.ntmps67
    go_wp2
    go_ret
    exact Ret.mk u (vbool hr.out)
/-- slices.ContainsFunc over a family, at a function value that tells of sets -/
theorem c_contF {B : Nat} {W : World} (u : Later B W) (L : List Nat) (hlen : L.length ≤ 1048576) (a : Option Addr) (cap : Nat) (h : IntsAt B W a (ints L)) (k : FuncId) (caps : Array Value) (q : Nat → Bool) (hpl : Plain k) (hk : ∀ (v : Later B W) (t : Nat), t ∈ L → Calls Try.prog k (#[.int .i64 t] ++ caps) v.val (Ret B W (.bool (q t)))) :
    Calls Try.prog 24 #[.slice a (ints L).length cap, .func (.func k) #[] caps] u.val (Ret B W (.bool (L.any q))) := by
  have := c_containsFunc u (ints L) a cap h (by rw [ints_len]; omega) k caps (fun x => q x.toNat) hpl (fun v i hi => by
    rw [ints_len] at hi
    have hm : L.getD i 0 ∈ L := by simp [hi]
    rw [ints_getD]
    exact hk v _ hm)
  rwa [show (ints L).any (fun x => q x.toNat) = L.any q by unfold ints; rw [List.any_map]; rfl] at this

set_option maxRecDepth 100000 in
set_option maxHeartbeats 8000000 in
theorem c_setsLeast0 {B : Nat} {W : World} (u : Later B W) (L : List Nat) (h256 : ∀ b, b ∈ L → b < 256) (hlen : L.length ≤ 1048576) (a : Option Addr) (cap : Nat) (h : IntsAt B W a (ints L)) :
    Calls Try.prog 57 #[.slice a (ints L).length cap] u.val (RetOwn B W (ints (L.filter (loneB L)))) := by
  have HI := Lib.hid h
  have H8 := Lib.hid h256
  have HE : Hid (filtTo (loneB L) L L.length = L.filter (loneB L)) := Lib.hid (filtTo_all _ _)
  clear h h256
  have hil : (ints L).length = L.length := ints_len L
  rw [hil]
  go_enter Try.func57, Try.ntmps57
  go_wp2
  go_loopw [3, 8] (fun o i wr => ∃ (k : Nat) (ad : Option Addr) (cp : Nat) (v : Later B W), k ≤ L.length ∧ o = .slice ad (ints (filtTo (loneB L) L k)).length cp ∧ i = .int .i64 k ∧ wr = v.val ∧ Hid (Own B v.val ad cp (ints (filtTo (loneB L) L k)))) (fun _ i _ => L.length - (intOf i).toNat)
  case atStart => exact ⟨0, none, 0, u, by omega, rfl, rfl, rfl, Own.nil _ _⟩
  case round =>
    clear u
    obtain ⟨k, ad, cp, v, hk, rfl, rfl, rfl, HO⟩ := hrel
    by_cases hlt : k < L.length
    · obtain ⟨b, off, rfl, hbB, hcell⟩ := HI.out.at (k := k) (by rw [ints_len]; exact hlt)
      have c0 : ∀ v : Later B W, v.val.cell? ⟨b, off + k, none⟩ = some (.int .i64 ((L.getD k 0 : Nat) : Int)) := fun v => by rw [← ints_getD]; exact hcell v k (by rw [ints_len]; exact hlt)
      have h8 : L.getD k 0 < 256 := H8.out _ (by simp [hlt])
      have HS := Lib.hid (filtTo_step (loneB L) L hlt)
      have HLn : Hid ((ints (filtTo (loneB L) L k)).length ≤ 1048576) := Lib.hid (by rw [ints_len]; have := filtTo_len (loneB L) L k; omega)
      have HX : Hid ((!(L.any (fun t => decide (t ≠ L.getD k 0 ∧ t &&& L.getD k 0 = t)))) = loneB L (L.getD k 0)) := Lib.hid rfl
      clear hcell
      generalize L.getD k 0 = s at *
      go_upto_region 5 with fail
      have T0 : RowL (v.val.alloc (.cells #[.int .i64 (s : Int)] 3)) v.val.heap.size 3 [.int .i64 (s : Int)] := RowL.new _ _ _
      have qb : ∀ w : Later (v.val.alloc (.cells #[.int .i64 (s : Int)] 3)).heap.size (v.val.alloc (.cells #[.int .i64 (s : Int)] 3)), w.val.cell? ⟨v.val.heap.size, 0, none⟩ = some (.int .i64 (s : Int)) := fun w => (T0.keep w.below).cell rfl
      have hgz : v.val.heap.size < (v.val.alloc (.cells #[.int .i64 (s : Int)] 3)).heap.size := by simp
      have KC : Hid (Calls Try.prog 24 #[.slice (some ⟨b, off, none⟩) (ints L).length cap, .func (.func 67) #[] #[.pointer (some ⟨v.val.heap.size, 0, none⟩)]] (v.val.alloc (.cells #[.int .i64 (s : Int)] 3)) (Ret (v.val.alloc (.cells #[.int .i64 (s : Int)] 3)).heap.size (v.val.alloc (.cells #[.int .i64 (s : Int)] 3)) (.bool (L.any (fun t => decide (t ≠ s ∧ t &&& s = t)))))) := Lib.hid (c_contF (Later.self (v.val.alloc (.cells #[.int .i64 (s : Int)] 3))) L hlen _ cap (HI.out.to (v.alloc _)) 67 #[.pointer (some ⟨v.val.heap.size, 0, none⟩)] (fun t => decide (t ≠ s ∧ t &&& s = t)) (fun args w => by kernel_rfl) (fun x t ht => c_setsLeastTell x t s v.val.heap.size (H8.out t ht) h8 hgz (qb (Later.self (v.val.alloc (.cells #[.int .i64 (s : Int)] 3))))))
      rw [hil] at KC
      have HV : Hid (∀ y : Later (v.val.alloc (.cells #[.int .i64 (s : Int)] 3)).heap.size (v.val.alloc (.cells #[.int .i64 (s : Int)] 3)), ∃ w : Later B W, w.val = y.val) := Lib.hid (fun y => ⟨(v.alloc _).up y, rfl⟩)
      have HO1 : Hid (Own B (v.val.alloc (.cells #[.int .i64 (s : Int)] 3)) ad cp (ints (filtTo (loneB L) L k))) := Lib.hid (HO.out.keep (((Later.self v.val).alloc (.cells #[.int .i64 (s : Int)] 3)).below))
      clear HO T0 hgz
      generalize L.any (fun t => decide (t ≠ s ∧ t &&& s = t)) = an at *
      generalize v.val.heap.size = gs at *
      generalize (v.val.alloc (.cells #[.int .i64 (s : Int)] 3)) = Z at *
      clear c0
      rcases btf an with g1 | g1
      · subst g1
        have HN : Hid (filtTo (loneB L) L (k + 1) = filtTo (loneB L) L k) := Lib.hid (by rw [HS.out, ← HX.out]; rfl)
        clear HS HX
        go_wp2_with (first | (go_at_call 24; (with_reducible refine (KC.out).mono ?_); rintro e _ ⟨rfl, v1, rfl⟩))
        have HO2 := Lib.hid (HO1.out.keep v1.below)
        obtain ⟨y, hy⟩ := HV.out v1
        rw [← hy] at HO2 ⊢
        go_roundw
        case rel => exact ⟨k+1, ad, cp, y, by omega, by rw [HN.out], by go_num, rfl, by rw [HN.out]; exact HO2.out⟩
        case measure => simp [intOf]; omega
      · subst g1
        have HN : Hid (filtTo (loneB L) L (k + 1) = filtTo (loneB L) L k ++ [s]) := Lib.hid (by rw [HS.out, ← HX.out]; rfl)
        clear HS HX
        generalize filtTo (loneB L) L k = T at *
        go_upto_region 6 with (first | (go_at_call 24; (with_reducible refine (KC.out).mono ?_); rintro e _ ⟨rfl, v1, rfl⟩))
        have qb1 := qb v1
        have HO2 := Lib.hid (HO1.out.keep v1.below)
        obtain ⟨y, hy⟩ := HV.out v1
        rw [← hy] at HO2 qb1 ⊢
        clear hy HO1 HV KC v1 qb
        go_wp2_with (first | (at_builtin; refine wpList_push (B := B) (W := W) (w := y.val) y.below y.size rfl _ _ rfl (ints T) ad cp (s : Int) rfl HO2.out rfl (by have := HLn.out; omega) ?_; intro u2 ad2 cp2 hown))
        go_roundw
        case rel => exact ⟨k+1, ad2, cp2, u2, by omega, by rw [HN.out, ints_snoc]; simp, by go_num, rfl, by rw [HN.out, ints_snoc]; exact hown⟩
        case measure => simp [intOf]; omega
    · have hke : k = L.length := by omega
      subst hke
      rw [HE.out] at HO
      go_wp2
      go_ret
      refine RetP.of ⟨v, rfl⟩ ?_
      rw [HE.out]
      exact ⟨ad, cp, rfl, HO.out⟩

set_option maxRecDepth 100000 in
set_option maxHeartbeats 4000000 in
theorem c_setsLeast {B : Nat} {W : World} (u : Later B W) (n : Int) (L : List Nat) (h256 : ∀ b, b ∈ L → b < 256) (hlen : L.length ≤ 1048576) (a : Option Addr) (cap : Nat) (h : IntsAt B W a (ints L)) (hf : isFam n (ints L)) :
    Calls Try.prog 31 #[.int .i64 n, .slice a (ints L).length cap] u.val (RetP B W (ListO B (ints (L.filter (loneB L))) 0)) := by
  have KF : Hid (Calls Try.prog 18 #[.int .i64 n, .slice a (ints L).length cap] u.val (Ret B W (.int .i64 0))) := Lib.hid (by
    have := c_family u n (ints L) a cap h (by rw [ints_len]; omega)
    rwa [show errno (decide (isFam n (ints L))) 1 = 0 by simp [errno, hf]] at this)
  have KL := Lib.hid (fun v : Later B W => c_setsLeast0 v L h256 hlen a cap h)
  clear h h256 hf
  go_enter Try.func31, Try.ntmps31
  go_wp2_with (first | (go_at_call 18; (with_reducible refine (KF.out).mono ?_); rintro e _ ⟨rfl, v1, rfl⟩) | (go_at_call 57; (with_reducible refine (KL.out _).mono ?_); rintro e _ ⟨_, rfl, ⟨ad, cp, rfl, hO⟩, v1, rfl⟩))
  go_ret2
  exact RetP.mk v1 ⟨_, _, rfl, hO⟩
set_option maxRecDepth 100000 in
set_option maxHeartbeats 4000000 in
theorem c_setsLeast_no {B : Nat} {W : World} (u : Later B W) (n : Int) (l : List Int) (hlen : l.length ≤ 4611686018427387904) (a : Option Addr) (cap : Nat) (h : IntsAt B W a l) (hf : ¬ isFam n l) :
    Calls Try.prog 31 #[.int .i64 n, .slice a l.length cap] u.val (RetP B W (ListE [] 1)) := by
  have KF : Hid (Calls Try.prog 18 #[.int .i64 n, .slice a l.length cap] u.val (Ret B W (.int .i64 1))) := Lib.hid (by
    have := c_family u n l a cap h (by omega)
    rwa [show errno (decide (isFam n l)) 1 = 1 by simp [errno, hf]] at this)
  clear h hf
  go_enter Try.func31, Try.ntmps31
  go_wp2_with (first | (go_at_call 18; (with_reducible refine (KF.out).mono ?_); rintro e _ ⟨rfl, v1, rfl⟩))
  go_ret2
  exact RetP.mk v1 ListE.no
end Go.Proofs.Ytmcffbmhkbijlaa
