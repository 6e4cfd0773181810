
/-
  minors.right, kept, made.
  minors.Delete, Contract.
  slices.IndexFunc told exactly; slices.DeleteFunc over a row of the call's own.
-/
import Derived.Test.YtdieaijgoidocaaPk17
import Derived.Test.YtdieaijgoidocaaPk27
import Derived.Test.YtdieaijgoidocaaPk11
import Derived.Test.YtdieaijgoidocaaPk13
import Derived.Deep.RegionHeld3
import Derived.Test.YtdieaijgoidocaaPk22
import Derived.Lib.SliceRun
namespace Go.Proofs.Ytdieaijgoidocaa
open Go.RowKit
set_option linter.unusedVariables false

theorem growL_step (key : Nat → Int) (L : List Nat) (k : Nat) : growL key L (k + 1) = if (growL key L k).2 < key (L.getD k 0) then ([L.getD k 0], key (L.getD k 0)) else if key (L.getD k 0) = (growL key L k).2 then ((growL key L k).1 ++ [L.getD k 0], (growL key L k).2) else growL key L k := rfl

end Go.Proofs.Ytdieaijgoidocaa

namespace Go.Proofs.Ytdieaijgoidocaa
open Go.RowKit
set_option linter.unusedVariables false

theorem growL_sub (key : Nat → Int) (L : List Nat) (k : Nat) (hk : k ≤ L.length) : ∀ b, b ∈ (growL key L k).1 → b ∈ L := by
  induction k with
  | zero => intro b hb; cases hb
  | succ k ih =>
    intro b hb
    have hm : L.getD k 0 ∈ L := by simp [show k < L.length by omega]
    rw [growL_step] at hb
    split at hb
    · rw [List.mem_singleton.1 hb]; exact hm
    · split at hb
      · rcases List.mem_append.1 hb with h | h
        · exact ih (by omega) b h
        · rw [List.mem_singleton.1 h]; exact hm
      · exact ih (by omega) b hb

end Go.Proofs.Ytdieaijgoidocaa

namespace Go.Proofs.Ytdieaijgoidocaa
open Go.RowKit
set_option linter.unusedVariables false

/-- where the first element of a kind stands, or -1 -/
def FirstAt (l : List Int) (p : Int → Bool) (r : Int) : Prop := (r = -1 ∧ ∀ i, i < l.length → p (l.getD i 0) = false) ∨ ∃ k : Nat, k < l.length ∧ r = (k : Int) ∧ p (l.getD k 0) = true ∧ ∀ i, i < k → p (l.getD i 0) = false

set_option maxRecDepth 100000 in
set_option maxHeartbeats 2000000 in
theorem c_indexFunc2 {B : Nat} {W : World} (u : Later B W) (l : List Int) (a : Option Addr) (cap : Nat) (h : IntsAt B W a l) (hlen : l.length ≤ 4611686018427387904) (k : FuncId) (caps : Array Value) (p : Int → Bool) (hpl : Plain k) (hk : TellsE B W k caps l p) :
    Calls Try.prog 54 #[.slice a l.length cap, .func (.func k) #[] caps] u.val (RetP B W (fun v w => ∃ r : Int, v = .int .i64 r ∧ FirstAt l p r)) := by
  have HI := Lib.hid h
  have HK := Lib.hid hk
  have hp1 : ∀ (args : Array Value) (w : World), (callFunc k args).run Try.prog w = .ok (.enter k args) w := hpl
  clear h hk
  go_enter Try.func54, Try.ntmps54
  go_wp2
  go_loopw [8] (fun i wr => ∃ (s : Nat) (v : Later B W), s ≤ l.length ∧ i = .int .i64 s ∧ wr = v.val ∧ Hid (∀ i, i < s → p (l.getD i 0) = false)) (fun i _ => l.length - (intOf i).toNat)
  case atStart => exact ⟨0, u, by omega, rfl, rfl, Lib.hid (fun i hi => by omega)⟩
  case round =>
    obtain ⟨s, v, hs, rfl, rfl, hf⟩ := hrel
    by_cases hlt : s < l.length
    · obtain ⟨b, off, rfl, hbB, hcell⟩ := HI.out.at hlt
      have c0 : ∀ v : Later B W, v.val.cell? ⟨b, off + s, none⟩ = some (.int .i64 (l.getD s 0)) := fun v => hcell v s hlt
      have K := Lib.hid (HK.out v s hlt)
      have HX : Hid (p (l.getD s 0) = true → FirstAt l p (s : Int)) := Lib.hid (fun h => .inr ⟨s, hlt, rfl, h, hf.out⟩)
      have HY : Hid (p (l.getD s 0) = false → ∀ i, i < s + 1 → p (l.getD i 0) = false) := Lib.hid (fun h i hi => by
        by_cases e : i = s
        · subst e; exact h
        · exact hf.out i (by omega))
      clear hcell hf
      generalize l.getD s 0 = x at *
      rcases btf (p x) with g1 | g1
      · rw [g1] at K
        have HE := Lib.hid (HX.out g1)
        clear g1 HX HY
        have c0' := c0 v
        go_wp2_with (first | (refine (K.out).mono ?_; rintro e _ ⟨rfl, v2, rfl⟩))
        go_ret
        exact RetP.mk v2 ⟨_, rfl, HE.out⟩
      · rw [g1] at K
        have HN := Lib.hid (HY.out g1)
        clear g1 HX HY
        have c0' := c0 v
        go_wp2_with (first | (refine (K.out).mono ?_; rintro e _ ⟨rfl, v2, rfl⟩))
        go_roundw
        case rel => exact ⟨s+1, v2, by omega, by go_num, rfl, HN⟩
        case measure => simp [intOf]; omega
    · have HE : Hid (FirstAt l p (-1)) := Lib.hid (.inl ⟨rfl, fun i hi => hf.out i (by omega)⟩)
      go_wp2
      go_ret
      exact RetP.mk v ⟨_, rfl, HE.out⟩

/-- the row while its elements are struck: j looked at, i kept -/
def DelAt (xs : List Int) (q : Int → Bool) (zs : List Int) (i j : Nat) : Prop := zs.length = xs.length ∧ i < j ∧ j ≤ xs.length ∧ zs.take i = (xs.take j).filter q ∧ ∀ t, j ≤ t → zs.getD t 0 = xs.getD t 0
theorem take_snoc (xs : List Int) {j : Nat} (hj : j < xs.length) : xs.take (j + 1) = xs.take j ++ [xs.getD j 0] := by
  rw [List.take_add_one, List.getElem?_eq_getElem hj]
  have : xs.getD j 0 = xs[j] := by simp [hj]
  rw [this]; rfl
theorem filt_no {q : Int → Bool} {x : Int} (h : q x = false) : [x].filter q = [] := by simp [h]
theorem filt_yes {q : Int → Bool} {x : Int} (h : q x = true) : [x].filter q = [x] := by simp [h]
theorem take_set_self (zs : List Int) (i : Nat) (x : Int) : (zs.set i x).take i = zs.take i := by
  rw [List.take_set, List.set_eq_of_length_le (by simp; omega)]
theorem DelAt.start {xs : List Int} {q : Int → Bool} {k : Nat} (hk : k < xs.length) (h1 : q (xs.getD k 0) = false) (h2 : ∀ i, i < k → q (xs.getD i 0) = true) : DelAt xs q xs k (k + 1) := by
  refine ⟨rfl, by omega, by omega, ?_, fun t _ => rfl⟩
  rw [take_snoc xs hk, List.filter_append]
  have e1 : (xs.take k).filter q = xs.take k := by
    rw [List.filter_eq_self]
    intro x hx
    obtain ⟨i, hi, e⟩ := List.getElem_of_mem hx
    have hi' : i < k := by simp at hi; omega
    have := h2 i hi'
    rw [← e, List.getElem_take]
    simpa [show i < xs.length by omega] using this
  rw [e1, filt_no h1, List.append_nil]
theorem DelAt.skip {xs zs : List Int} {q : Int → Bool} {i j : Nat} (h : DelAt xs q zs i j) (hj : j < xs.length) (hq : q (xs.getD j 0) = false) : DelAt xs q zs i (j + 1) := by
  obtain ⟨h1, h2, h3, h4, h5⟩ := h
  refine ⟨h1, by omega, by omega, ?_, fun t ht => h5 t (by omega)⟩
  rw [h4, take_snoc xs hj, List.filter_append, filt_no hq, List.append_nil]
theorem DelAt.keep {xs zs : List Int} {q : Int → Bool} {i j : Nat} (h : DelAt xs q zs i j) (hj : j < xs.length) (hq : q (xs.getD j 0) = true) : DelAt xs q (zs.set i (xs.getD j 0)) (i + 1) (j + 1) := by
  obtain ⟨h1, h2, h3, h4, h5⟩ := h
  refine ⟨by simp [h1], by omega, by omega, ?_, fun t ht => ?_⟩
  · rw [take_snoc _ (by simp; omega), take_snoc xs hj, List.filter_append]
    have e1 := take_set_self zs i (xs.getD j 0)
    have e2 : (zs.set i (xs.getD j 0)).getD i 0 = xs.getD j 0 := by
      have : i < zs.length := by omega
      simp [this]
    rw [e1, e2, h4, filt_yes hq]
  · have := h5 t (by omega)
    rw [← this]
    have hne : i ≠ t := by omega
    simp [List.getD, List.getElem?_set_ne hne]
theorem DelAt.done {xs zs : List Int} {q : Int → Bool} {i : Nat} (h : DelAt xs q zs i xs.length) : zs.take i = xs.filter q := by
  have := h.2.2.2.1
  rwa [List.take_length] at this

/-- a run of cells of a row of the call's own struck to zero -/
theorem Own.strike {B : Nat} {W : World} {g cap : Nat} : ∀ (c i : Nat) (v : Later B W) (zs : List Int), Own B v.val (some ⟨g, 0, none⟩) cap zs → i + c ≤ zs.length → ∃ (v' : Later B W) (ys : List Int), v'.val = v.val.setCells g i (List.replicate c (.int .i64 0)) ∧ Own B v'.val (some ⟨g, 0, none⟩) cap ys ∧ ys.length = zs.length ∧ ys.take i = zs.take i
  | 0, i, v, zs, h, _ => ⟨v, zs, rfl, h, rfl, rfl⟩
  | c + 1, i, v, zs, h, hc => by
    have h1 := h.put (i := i) (by omega) 0
    obtain ⟨v', ys, e1, e2, e3, e4⟩ := Own.strike c (i + 1) (v.set ⟨g, i, none⟩ h.base (.int .i64 0)) (zs.set i 0) h1 (by simp; omega)
    refine ⟨v', ys, e1, e2, by simpa using e3, ?_⟩
    have := congrArg (List.take i) e4
    rw [List.take_take, List.take_take, Nat.min_eq_left (Nat.le_succ i)] at this
    rw [this]
    exact take_set_self zs i 0

set_option maxRecDepth 100000 in
set_option maxHeartbeats 8000000 in
theorem c_deleteFunc {B : Nat} {W : World} (u : Later B W) (xs : List Int) (ad : Option Addr) (cap : Nat) (ho : Own B u.val ad cap xs) (hlen : xs.length ≤ 1048576) (k : FuncId) (caps : Array Value) (p : Int → Bool) (hpl : Plain k) (hk : ∀ (B' : Nat) (W' : World) (x : Later B W) (v : Later B' W'), x.val = v.val → ∀ i, i < xs.length → Calls Try.prog k (#[.int .i64 (xs.getD i 0)] ++ caps) v.val (Ret B' W' (.bool (p (xs.getD i 0))))) :
    Calls Try.prog 42 #[.slice ad xs.length cap, .func (.func k) #[] caps] u.val (fun e w' => e = .returned (.slice ad (xs.filter (fun x => !p x)).length cap) ∧ ∃ v : Later B W, w' = v.val ∧ Own B v.val ad cap (xs.filter (fun x => !p x))) := by
  have hp1 : ∀ (args : Array Value) (w : World), (callFunc k args).run Try.prog w = .ok (.enter k args) w := hpl
  have KI := Lib.hid (c_indexFunc2 (Later.self u.val) xs ad cap ho.reads (by omega) k caps p hpl (fun v i hi => hk _ _ (u.up v) v rfl i hi))
  have HO := Lib.hid ho
  have HK := Lib.hid hk
  clear ho hk
  obtain ⟨ys, hys⟩ : ∃ ys, xs.filter (fun x => !p x) = ys := ⟨_, rfl⟩
  have HY := Lib.hid hys
  rw [hys]
  clear hys
  go_enter Try.func42, Try.ntmps42
  go_upto_region 2 with (first | (go_at_call 54; (refine (KI.out).mono ?_); rintro e _ ⟨_, rfl, ⟨r, rfl, hr⟩, v, rfl⟩))
  have HO1 := Lib.hid (HO.out.keep v.below)
  obtain ⟨y, hy⟩ : ∃ y : Later B W, y.val = v.val := ⟨u.up v, rfl⟩
  rw [← hy] at HO1 ⊢
  clear hy HO KI v
  rcases hr with ⟨rfl, hall⟩ | ⟨k0, hk0, rfl, hp0, hbef⟩
  · have HE : Hid (ys = xs) := Lib.hid (by
      rw [← HY.out, List.filter_eq_self]
      intro x hx
      obtain ⟨i, hi, e⟩ := List.getElem_of_mem hx
      have := hall i hi
      rw [← e]
      simpa [hi] using this)
    clear hall
    go_wp2
    go_ret
    rw [HE.out]
    exact ⟨rfl, y, rfl, HO1.out⟩
  · have hne : xs ≠ [] := by rintro rfl; simp at hk0
    obtain ⟨g, rfl⟩ := own_some HO1.out hne
    have HD : Hid (DelAt xs (fun x => !p x) xs k0 (k0 + 1)) := Lib.hid (DelAt.start hk0 (by show (!p _) = false; rw [hp0]; rfl) (fun i hi => by show (!p _) = true; rw [hbef i hi]; rfl))
    have d0 : ((k0 : Int) == -1) = false := by rw [beq_eq_false_iff_ne]; omega
    have hgB := HO1.out.base
    clear hp0 hbef hne
    go_wp2
    go_loopw [5, 6] (fun i j wr => ∃ (ii jj : Nat) (zs : List Int) (v : Later B W), i = .int .i64 ii ∧ j = .int .i64 jj ∧ wr = v.val ∧ Hid (Own B v.val (some ⟨g, 0, none⟩) cap zs) ∧ Hid (DelAt xs (fun x => !p x) zs ii jj)) (fun _ j _ => xs.length - (intOf j).toNat)
    case atStart => exact ⟨k0, k0 + 1, xs, y, rfl, by go_num, rfl, HO1, HD⟩
    case round =>
      clear y HO1 HD
      obtain ⟨i, j, zs, v, rfl, rfl, rfl, HO, HD⟩ := hrel
      obtain ⟨hzl, hij, hjl, _, hun⟩ := HD.out
      by_cases hlt : j < xs.length
      · have KT := Lib.hid (HK.out v.val.heap.size v.val v (Later.self v.val) rfl j hlt)
        have hOw : Hid (∀ w : Later v.val.heap.size v.val, Own B w.val (some ⟨g, 0, none⟩) cap zs) := Lib.hid (fun w => HO.out.keep w.below)
        have c0 : v.val.cell? ⟨g, j, none⟩ = some (.int .i64 (xs.getD j 0)) := by rw [← hun j (Nat.le_refl _)]; exact HO.out.cellAt (by omega)
        have c1 : ∀ w : Later v.val.heap.size v.val, w.val.cell? ⟨g, i, none⟩ = some (.int .i64 (zs.getD i 0)) := fun w => (hOw.out w).cellAt (by omega)
        have c2 : ∀ w : Later v.val.heap.size v.val, w.val.frozen? ⟨g, i, none⟩ = false := fun w => (hOw.out w).fz i
        have hil : i < xs.length := by omega
        clear hun hzl
        rcases btf (p (xs.getD j 0)) with g1 | g1
        · have HN := Lib.hid (HD.out.skip hlt (by show (!p _) = false; rw [g1]; rfl))
          rw [g1] at KT
          clear g1
          generalize xs.getD j 0 = x at *
          go_wp2_with (first | (refine (KT.out).mono ?_; rintro e _ ⟨rfl, v2, rfl⟩))
          go_roundw
          case rel => exact ⟨i, j + 1, zs, v.up v2, rfl, by go_num, rfl, Lib.hid (hOw.out v2), HN⟩
          case measure => simp [intOf]; omega
        · have HN := Lib.hid (HD.out.keep hlt (by show (!p _) = true; rw [g1]; rfl))
          rw [g1] at KT
          clear g1
          generalize xs.getD j 0 = x at *
          go_wp2_with (first | (refine (KT.out).mono ?_; rintro e _ ⟨rfl, v2, rfl⟩))
          go_roundw
          case rel => exact ⟨i + 1, j + 1, zs.set i x, (v.up v2).set ⟨g, i, none⟩ hgB _, by go_num, by go_num, rfl, Lib.hid ((hOw.out v2).put (by have := HD.out.1; omega) x), HN⟩
          case measure => simp [intOf]; omega
      · have hje : j = xs.length := by omega
        subst hje
        have HF : Hid (zs.take i = ys) := Lib.hid (by rw [HD.out.done, HY.out])
        have hcl : ∀ ty, (Builtin.clear_ #[22] ty #[.slice (some ⟨g, i, none⟩) (xs.length - i) (cap - i)]).run Try.prog v.val = .ok (.tuple #[]) (v.val.setCells g i (List.replicate (xs.length - i) (.int .i64 0))) := fun ty => by
          refine Lib.run_clear_slice v.val _ 3 ty _ Try.underlying22 Try.zeroValue3 rfl rfl g i _ _ (by omega) (fun t ht => ?_) (fun t ht => HO.out.fz _)
          rw [HO.out.cellAt (i := i + t) (by omega)]; rfl
        have hcap : xs.length ≤ cap := by have := HO.out.le; omega
        have HS := Lib.hid (Own.strike (xs.length - i) i v zs HO.out (by omega))
        clear hun HK
        go_wp2
        go_ret
        obtain ⟨v', ys', e1, e2, e3, e4⟩ := HS.out
        have hyl : ys.length = i := by rw [← HF.out, List.length_take]; omega
        refine ⟨?_, v', e1.symm, ?_⟩
        · rw [hyl]; rfl
        · have e5 : ys' = ys ++ ys'.drop i := by rw [← HF.out, ← e4, List.take_append_drop]
          rw [e5] at e2
          exact e2.first

end Go.Proofs.Ytdieaijgoidocaa
