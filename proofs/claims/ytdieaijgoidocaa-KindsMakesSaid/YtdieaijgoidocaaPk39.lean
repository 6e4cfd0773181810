
/-
  kinds.Laminar$1, rotaref.Laminar$1.
  kinds.Laminar.
  rotaref.Laminar.
-/
import Derived.Test.YtdieaijgoidocaaPk24
import Derived.Test.YtdieaijgoidocaaPk18
import Derived.Deep.CutRange
import Derived.Test.YtdieaijgoidocaaPk29
import Derived.Test.YtdieaijgoidocaaPk12
import Derived.Test.YtdieaijgoidocaaPk30
namespace Go.Proofs.Ytdieaijgoidocaa
open Go.RowKit
set_option linter.unusedVariables false

/-- at most so many of each set -/
def lamB (l : List Nat) (mo : List Int) (s : Nat) : Bool := (List.range l.length).all (fun i => decide ((sz (l.getD i 0 &&& s) : Int) ≤ mo.getD i 0))
theorem lamB_iff {l : List Nat} {mo : List Int} {s : Nat} : lamB l mo s = true ↔ ∀ i, i < l.length → (sz (l.getD i 0 &&& s) : Int) ≤ mo.getD i 0 := by
  unfold lamB
  rw [List.all_eq_true]
  constructor
  · intro h i hi; exact of_decide_eq_true (h i (List.mem_range.2 hi))
  · intro h i hi; exact decide_eq_true (h i (List.mem_range.1 hi))

set_option maxRecDepth 100000 in
set_option maxHeartbeats 8000000 in
theorem c_kLamTell {B : Nat} {W : World} (u : Later B W) (l : List Nat) (mo : List Int) (hlm : mo.length = l.length) (hlen : l.length ≤ 4611686018427387904) (hl8 : ∀ i, i < l.length → l.getD i 0 < 256) (a b : Option Addr) (cap capb gl gm : Nat) (h : IntsAt B W a (ints l)) (h2 : IntsAt B W b mo) (hg : gl < B) (hgm : gm < B) (hc : W.cell? ⟨gl, 0, none⟩ = some (.slice a (ints l).length cap)) (hc2 : W.cell? ⟨gm, 0, none⟩ = some (.slice b mo.length capb)) (s : Nat) (hs : s < 256) :
    Calls Try.prog 29 #[.int .i64 s, .pointer (some ⟨gl, 0, none⟩), .pointer (some ⟨gm, 0, none⟩)] u.val (Ret B W (.bool (lamB l mo s))) := by
  have q0 : ∀ v : Later B W, v.val.cell? ⟨gl, 0, none⟩ = some (.slice a l.length cap) := fun v => by rw [v.cell hg, hc, ints_len]
  have q1 : ∀ v : Later B W, v.val.cell? ⟨gm, 0, none⟩ = some (.slice b l.length capb) := fun v => by rw [v.cell hgm, hc2, hlm]
  have HI := Lib.hid h
  have HJ := Lib.hid h2
  have H8 := Lib.hid hl8
  have HR := Lib.hid (lamB_iff (l := l) (mo := mo) (s := s))
  have HLm := Lib.hid hlm
  clear h h2 hc hc2 hl8 hlm
  generalize lamB l mo s = res at *
  have q0u := q0 u
  go_enter Try.func29, Try.ntmps29
  go_wp2
  go_loopw [9] (fun iv wr => ∃ (k : Nat) (v : Later B W), k ≤ l.length ∧ iv = .int .i64 k ∧ wr = v.val ∧ Hid (∀ i, i < k → (sz (l.getD i 0 &&& s) : Int) ≤ mo.getD i 0)) (fun i _ => l.length - (intOf i).toNat)
  case atStart => exact ⟨0, u, by omega, rfl, rfl, Lib.hid (fun i hi => by omega)⟩
  case round =>
    clear u q0u
    obtain ⟨k, v, hk, rfl, rfl, hf⟩ := hrel
    have q0v := q0 v
    by_cases hlt : k < l.length
    · obtain ⟨bb, off, rfl, hbB, hcell⟩ := HI.out.at (k := k) (by rw [ints_len]; exact hlt)
      obtain ⟨b2, off2, rfl, hbB2, hcell2⟩ := HJ.out.at (k := k) (by rw [HLm.out]; exact hlt)
      have c0 : ∀ v : Later B W, v.val.cell? ⟨bb, off + k, none⟩ = some (.int .i64 ((l.getD k 0 : Nat) : Int)) := fun v => by rw [← ints_getD]; exact hcell v k (by rw [ints_len]; exact hlt)
      have c1 : ∀ v : Later B W, v.val.cell? ⟨b2, off2 + k, none⟩ = some (.int .i64 (mo.getD k 0)) := fun v => hcell2 v k (by rw [HLm.out]; exact hlt)
      have c0v := c0 v
      have hx8 := H8.out k hlt
      have hal : l.getD k 0 &&& s < 256 := Nat.lt_of_le_of_lt Nat.and_le_left hx8
      have o1 := i64_and (l.getD k 0) s (by omega) (by omega)
      have HX : Hid (¬ (sz (l.getD k 0 &&& s) : Int) ≤ mo.getD k 0 → res = false) := Lib.hid (fun h => by
        cases c : res
        · rfl
        · exact absurd (HR.out.1 c k hlt) h)
      have HY : Hid ((sz (l.getD k 0 &&& s) : Int) ≤ mo.getD k 0 → ∀ i, i < k + 1 → (sz (l.getD i 0 &&& s) : Int) ≤ mo.getD i 0) := Lib.hid (fun h i hi => by
        by_cases c : i = k
        · subst c; exact h
        · exact hf.out i (by omega))
      have hm1 : Hid (k + 1 ≤ l.length) := Lib.hid hlt
      have KS : Hid (∀ v : Later B W, Calls Try.prog 30 #[.int .i64 ((l.getD k 0 &&& s : Nat) : Int)] v.val (Ret B W (.int .i64 (sz (l.getD k 0 &&& s))))) := Lib.hid (fun v => c_kSize v _ hal)
      clear hcell hcell2 hf
      generalize sz (l.getD k 0 &&& s) = z at *
      generalize l.getD k 0 &&& s = aw at *
      generalize mo.getD k 0 = y at *
      generalize l.getD k 0 = x at *
      rcases ilt y (z : Int) with ⟨h1, d1⟩ | ⟨h1, d1⟩
      · have hr := HX.out (by omega)
        subst hr
        clear HX HY h1 HR
        go_upto_region 4 with fail
        refine wp_region_later v (by kernel_rfl) (by kernel_rfl) (fun _ => ?_)
        repeat (first | go_big_quiet_step (((go_at_call 30; exact KS.out _))) | (refine wpQuiet_step (fun K hK => ?_); go_simp; refine ⟨_, fun _ => rfl, ?_⟩; refine hK _ ?_; clear hK K))
        refine wpQuiet_nil ?_
        intro v
        go_wp2
        go_ret
        exact Ret.mk v rfl
      · have HN := Lib.hid (HY.out (by omega))
        clear HX HY h1
        go_upto_region 4 with fail
        refine wp_region_later v (by kernel_rfl) (by kernel_rfl) (fun _ => ?_)
        repeat (first | go_big_quiet_step (((go_at_call 30; exact KS.out _))) | (refine wpQuiet_step (fun K hK => ?_); go_simp; refine ⟨_, fun _ => rfl, ?_⟩; refine hK _ ?_; clear hK K))
        refine wpQuiet_nil ?_
        intro v
        go_wp2
        go_roundw
        case rel => exact ⟨k+1, v, hm1.out, by go_num, rfl, HN⟩
        case measure => have := hm1.out; simp [intOf]; omega
    · have hr : res = true := HR.out.2 (fun i hi => hf.out i (by omega))
      subst hr
      go_wp2
      go_ret
      exact Ret.mk v rfl

set_option maxRecDepth 100000 in
set_option maxHeartbeats 8000000 in
theorem c_refLamTell {B : Nat} {W : World} (u : Later B W) (l : List Nat) (mo : List Int) (hlm : mo.length = l.length) (hlen : l.length ≤ 4611686018427387904) (hl8 : ∀ i, i < l.length → l.getD i 0 < 256) (a b : Option Addr) (cap capb gl gm : Nat) (h : IntsAt B W a (ints l)) (h2 : IntsAt B W b mo) (hg : gl < B) (hgm : gm < B) (hc : W.cell? ⟨gl, 0, none⟩ = some (.slice a (ints l).length cap)) (hc2 : W.cell? ⟨gm, 0, none⟩ = some (.slice b mo.length capb)) (s : Nat) (hs : s < 256) :
    Calls Try.prog 20 #[.int .i64 s, .pointer (some ⟨gl, 0, none⟩), .pointer (some ⟨gm, 0, none⟩)] u.val (Ret B W (.bool (lamB l mo s))) := by
  have q0 : ∀ v : Later B W, v.val.cell? ⟨gl, 0, none⟩ = some (.slice a l.length cap) := fun v => by rw [v.cell hg, hc, ints_len]
  have q1 : ∀ v : Later B W, v.val.cell? ⟨gm, 0, none⟩ = some (.slice b l.length capb) := fun v => by rw [v.cell hgm, hc2, hlm]
  have HI := Lib.hid h
  have HJ := Lib.hid h2
  have H8 := Lib.hid hl8
  have HR := Lib.hid (lamB_iff (l := l) (mo := mo) (s := s))
  have HLm := Lib.hid hlm
  clear h h2 hc hc2 hl8 hlm
  generalize lamB l mo s = res at *
  have q0u := q0 u
  go_enter Try.func20, Try.ntmps20
  go_wp2
  go_loopw [5] (fun iv wr => ∃ (k : Nat) (v : Later B W), k ≤ l.length ∧ iv = .int .i64 k ∧ wr = v.val ∧ Hid (∀ i, i < k → (sz (l.getD i 0 &&& s) : Int) ≤ mo.getD i 0)) (fun i _ => l.length - (intOf i).toNat)
  case atStart => exact ⟨0, u, by omega, rfl, rfl, Lib.hid (fun i hi => by omega)⟩
  case round =>
    clear u q0u
    obtain ⟨k, v, hk, rfl, rfl, hf⟩ := hrel
    have q0v := q0 v
    by_cases hlt : k < l.length
    · obtain ⟨bb, off, rfl, hbB, hcell⟩ := HI.out.at (k := k) (by rw [ints_len]; exact hlt)
      obtain ⟨b2, off2, rfl, hbB2, hcell2⟩ := HJ.out.at (k := k) (by rw [HLm.out]; exact hlt)
      have c0 : ∀ v : Later B W, v.val.cell? ⟨bb, off + k, none⟩ = some (.int .i64 ((l.getD k 0 : Nat) : Int)) := fun v => by rw [← ints_getD]; exact hcell v k (by rw [ints_len]; exact hlt)
      have c1 : ∀ v : Later B W, v.val.cell? ⟨b2, off2 + k, none⟩ = some (.int .i64 (mo.getD k 0)) := fun v => hcell2 v k (by rw [HLm.out]; exact hlt)
      have c0v := c0 v
      have hx8 := H8.out k hlt
      have hal : l.getD k 0 &&& s < 256 := Nat.lt_of_le_of_lt Nat.and_le_left hx8
      have o1 := i64_and s (l.getD k 0) (by omega) (by omega)
      have HX : Hid (¬ (sz (l.getD k 0 &&& s) : Int) ≤ mo.getD k 0 → res = false) := Lib.hid (fun h => by
        cases c : res
        · rfl
        · exact absurd (HR.out.1 c k hlt) h)
      have HY : Hid ((sz (l.getD k 0 &&& s) : Int) ≤ mo.getD k 0 → ∀ i, i < k + 1 → (sz (l.getD i 0 &&& s) : Int) ≤ mo.getD i 0) := Lib.hid (fun h i hi => by
        by_cases c : i = k
        · subst c; exact h
        · exact hf.out i (by omega))
      have hm1 : Hid (k + 1 ≤ l.length) := Lib.hid hlt
      have KS : Hid (∀ v : Later B W, Calls Try.prog 17 #[.int .i64 ((l.getD k 0 &&& s : Nat) : Int)] v.val (Ret B W (.int .i64 (sz (l.getD k 0 &&& s))))) := Lib.hid (fun v => c_size v _ hal)
      rw [Nat.and_comm s] at o1
      clear hcell hcell2 hf
      generalize sz (l.getD k 0 &&& s) = z at *
      generalize l.getD k 0 &&& s = aw at *
      generalize mo.getD k 0 = y at *
      generalize l.getD k 0 = x at *
      rcases ilt y (z : Int) with ⟨h1, d1⟩ | ⟨h1, d1⟩
      · have hr := HX.out (by omega)
        subst hr
        clear HX HY h1 HR
        go_upto_region 4 with fail
        refine wp_region_later v (by kernel_rfl) (by kernel_rfl) (fun _ => ?_)
        repeat (first | go_big_quiet_step (((go_at_call 17; exact KS.out _))) | (refine wpQuiet_step (fun K hK => ?_); go_simp; refine ⟨_, fun _ => rfl, ?_⟩; refine hK _ ?_; clear hK K))
        refine wpQuiet_nil ?_
        intro v
        go_wp2
        go_ret
        exact Ret.mk v rfl
      · have HN := Lib.hid (HY.out (by omega))
        clear HX HY h1
        go_upto_region 4 with fail
        refine wp_region_later v (by kernel_rfl) (by kernel_rfl) (fun _ => ?_)
        repeat (first | go_big_quiet_step (((go_at_call 17; exact KS.out _))) | (refine wpQuiet_step (fun K hK => ?_); go_simp; refine ⟨_, fun _ => rfl, ?_⟩; refine hK _ ?_; clear hK K))
        refine wpQuiet_nil ?_
        intro v
        go_wp2
        go_roundw
        case rel => exact ⟨k+1, v, hm1.out, by go_num, rfl, HN⟩
        case measure => have := hm1.out; simp [intOf]; omega
    · have hr : res = true := HR.out.2 (fun i hi => hf.out i (by omega))
      subst hr
      go_wp2
      go_ret
      exact Ret.mk v rfl

end Go.Proofs.Ytdieaijgoidocaa

namespace Go.Proofs.Ytdieaijgoidocaa
open Go.RowKit
set_option linter.unusedVariables false

/-- do two sets of the list cross? -/
def crs (l : List Nat) (i k : Nat) : Bool := decide (l.getD i 0 &&& l.getD k 0 ≠ 0) && decide (l.getD i 0 &&& l.getD k 0 ≠ l.getD i 0) && decide (l.getD i 0 &&& l.getD k 0 ≠ l.getD k 0)
/-- what is wrong with the first i -/
def lamE (l : List Nat) (mo : List Int) : Nat → Int
  | 0 => 0
  | i + 1 => if lamE l mo i ≠ 0 then lamE l mo i else if mo.getD i 0 < 0 then 1 else if (List.range i).any (crs l i) = true then 3 else 0
theorem lamE_stay {l : List Nat} {mo : List Int} {i : Nat} (h : lamE l mo i ≠ 0) : ∀ j, i ≤ j → lamE l mo j = lamE l mo i
  | 0, hj => by rw [show i = 0 by omega]
  | j + 1, hj => by
    by_cases e : i = j + 1
    · rw [e]
    · have ih := lamE_stay h j (by omega)
      rw [lamE, if_pos (by rw [ih]; exact h), ih]
theorem lamE_neg {l : List Nat} {mo : List Int} {i n : Nat} (h0 : lamE l mo i = 0) (h : mo.getD i 0 < 0) (hi : i < n) : lamE l mo n = 1 := by
  have e : lamE l mo (i + 1) = 1 := by rw [lamE, if_neg (fun c => c h0), if_pos h]
  rw [lamE_stay (i := i + 1) (by rw [e]; decide) n (by omega), e]
theorem lamE_crs {l : List Nat} {mo : List Int} {i k n : Nat} (h0 : lamE l mo i = 0) (h : ¬ mo.getD i 0 < 0) (hk : k < i) (hc : crs l i k = true) (hi : i < n) : lamE l mo n = 3 := by
  have e : lamE l mo (i + 1) = 3 := by rw [lamE, if_neg (fun c => c h0), if_neg h, if_pos (List.any_eq_true.2 ⟨k, List.mem_range.2 hk, hc⟩)]
  rw [lamE_stay (i := i + 1) (by rw [e]; decide) n (by omega), e]
theorem lamE_ok {l : List Nat} {mo : List Int} {i : Nat} (h0 : lamE l mo i = 0) (h : ¬ mo.getD i 0 < 0) (hc : ∀ k, k < i → crs l i k = false) : lamE l mo (i + 1) = 0 := by
  rw [lamE, if_neg (fun c => c h0), if_neg h, if_neg]
  intro c
  obtain ⟨k, hk, h2⟩ := List.any_eq_true.1 c
  rw [hc k (List.mem_range.1 hk)] at h2; cases h2
/-- what Laminar answers -/
def LamIs (n : Int) (l mo : List Int) (e : Int) : Prop := (¬ isFam n l → e = 1) ∧ (isFam n l → mo.length ≠ l.length → e = 3) ∧ (isFam n l → mo.length = l.length → ∃ L : List Nat, l = ints L ∧ e = lamE L mo L.length)

set_option maxRecDepth 100000 in
set_option maxHeartbeats 16000000 in
theorem c_kLam {B : Nat} {W : World} (u : Later B W) (n : Int) (l mo : List Int) (a b : Option Addr) (cap capb : Nat) (e n' : Int) (xs' : List Int) (h : IntsAt B W a l) (h2 : IntsAt B W b mo) (hlen : l.length ≤ 4611686018427387904) (hlen2 : mo.length ≤ 4611686018427387904) (hcap : l.length ≤ cap) (he : LamIs n l mo e) (hz : ZIf e n' xs')
    (hy : e = 0 → ∃ (m : Nat) (L : List Nat), n = (m : Int) ∧ m ≤ 8 ∧ l = ints L ∧ (∀ i, i < L.length → L.getD i 0 < 256) ∧ mo.length = L.length ∧ n' = m ∧ xs' = ints (biggest (those m (lamB L mo)))) (hL8 : isFam n l → ∀ L, l = ints L → ∀ i, i < L.length → L.getD i 0 < 256) :
    Calls Try.prog 9 #[.int .i64 n, .slice a l.length cap, .slice b mo.length capb] u.val (RetP B W (MatTO B n' xs' e)) := by
  have hB := u.size
  have k1 : (u.val.alloc (.cells #[.slice a l.length cap] 22)).heap.size = u.val.heap.size + 1 := by simp
  have k2 : ((u.val.alloc (.cells #[.slice a l.length cap] 22)).alloc (.cells #[.slice b mo.length capb] 22)).heap.size = u.val.heap.size + 2 := by simp
  have X1 : RowAt1 (((u.val.alloc (.cells #[.slice a l.length cap] 22)).alloc (.cells #[.slice b mo.length capb] 22)).alloc (.cells #[.int .i64 0, .slice none 0 0] 26)) u.val.heap.size 22 (.slice a l.length cap) := ((show RowAt1 (u.val.alloc (.cells #[.slice a l.length cap] 22)) u.val.heap.size 22 (.slice a l.length cap) from heap_alloc_new _ _).keep ((Below.refl _ _).alloc (Nat.le_refl _) _)).keep ((Below.refl _ _).alloc (Nat.le_refl _) _)
  have X2 : RowAt1 (((u.val.alloc (.cells #[.slice a l.length cap] 22)).alloc (.cells #[.slice b mo.length capb] 22)).alloc (.cells #[.int .i64 0, .slice none 0 0] 26)) (u.val.heap.size + 1) 22 (.slice b mo.length capb) := by
    have h : RowAt1 ((u.val.alloc (.cells #[.slice a l.length cap] 22)).alloc (.cells #[.slice b mo.length capb] 22)) (u.val.alloc (.cells #[.slice a l.length cap] 22)).heap.size 22 (.slice b mo.length capb) := heap_alloc_new _ _
    rw [k1] at h
    exact h.keep ((Below.refl _ _).alloc (Nat.le_refl _) _)
  have X3 : RowL (((u.val.alloc (.cells #[.slice a l.length cap] 22)).alloc (.cells #[.slice b mo.length capb] 22)).alloc (.cells #[.int .i64 0, .slice none 0 0] 26)) (u.val.heap.size + 2) 26 [.int .i64 0, .slice none 0 0] := by
    have h := RowL.new ((u.val.alloc (.cells #[.slice a l.length cap] 22)).alloc (.cells #[.slice b mo.length capb] 22)) 26 [.int .i64 0, .slice none 0 0]
    rwa [k2] at h
  have hYs : (((u.val.alloc (.cells #[.slice a l.length cap] 22)).alloc (.cells #[.slice b mo.length capb] 22)).alloc (.cells #[.int .i64 0, .slice none 0 0] 26)).heap.size = u.val.heap.size + 3 := by simp
  have HVY : Hid (∀ v : Later (((u.val.alloc (.cells #[.slice a l.length cap] 22)).alloc (.cells #[.slice b mo.length capb] 22)).alloc (.cells #[.int .i64 0, .slice none 0 0] 26)).heap.size (((u.val.alloc (.cells #[.slice a l.length cap] 22)).alloc (.cells #[.slice b mo.length capb] 22)).alloc (.cells #[.int .i64 0, .slice none 0 0] 26)), ∃ w : Later B W, w.val = v.val) := Lib.hid (fun v => ⟨(((u.alloc _).alloc _).alloc _).up v, rfl⟩)
  have HI : Hid (IntsAt (((u.val.alloc (.cells #[.slice a l.length cap] 22)).alloc (.cells #[.slice b mo.length capb] 22)).alloc (.cells #[.int .i64 0, .slice none 0 0] 26)).heap.size (((u.val.alloc (.cells #[.slice a l.length cap] 22)).alloc (.cells #[.slice b mo.length capb] 22)).alloc (.cells #[.int .i64 0, .slice none 0 0] 26)) a l) := Lib.hid (h.to (((u.alloc _).alloc _).alloc _))
  have HJ : Hid (IntsAt (((u.val.alloc (.cells #[.slice a l.length cap] 22)).alloc (.cells #[.slice b mo.length capb] 22)).alloc (.cells #[.int .i64 0, .slice none 0 0] 26)).heap.size (((u.val.alloc (.cells #[.slice a l.length cap] 22)).alloc (.cells #[.slice b mo.length capb] 22)).alloc (.cells #[.int .i64 0, .slice none 0 0] 26)) b mo) := Lib.hid (h2.to (((u.alloc _).alloc _).alloc _))
  have HX := Lib.hid X3
  have HX1 := Lib.hid X1
  have HX2 := Lib.hid X2
  have HYs := Lib.hid hYs
  have HE := Lib.hid he
  clear h h2 he k1 k2 X1 X2 X3 hYs
  go_enter Try.func9, Try.ntmps9
  go_upto_region 1 with fail
  generalize (((u.val.alloc (.cells #[.slice a l.length cap] 22)).alloc (.cells #[.slice b mo.length capb] 22)).alloc (.cells #[.int .i64 0, .slice none 0 0] 26)) = Y at *
  generalize u.val.heap.size = gu at *
  rw [show gu + 1 + 1 = gu + 2 from rfl]
  have hgY : gu + 2 < Y.heap.size := by have := HYs.out; omega
  have q1 : ∀ v : Later Y.heap.size Y, v.val.cell? ⟨gu, 0, none⟩ = some (.slice a l.length cap) := fun v => (HX1.out.keep v.below).c0
  have q2 : ∀ v : Later Y.heap.size Y, v.val.cell? ⟨gu + 1, 0, none⟩ = some (.slice b mo.length capb) := fun v => (HX2.out.keep v.below).c0
  have f0 : ∀ (w : Later Y.heap.size Y), w.val.cell? ⟨gu + 2, 0, none⟩ = some (.int .i64 0) := fun w => (HX.out.keep_at w.below hgY).cell rfl
  have z0 : ∀ (w : Later Y.heap.size Y), w.val.frozen? ⟨gu + 2, 0, none⟩ = false := fun w => (HX.out.keep_at w.below hgY).fz 0
  have f1 : ∀ (w : Later Y.heap.size Y) (x0 : Value), (w.val.setCell ⟨gu + 2, 0, none⟩ x0).cell? ⟨gu + 2, 1, none⟩ = some (.slice none 0 0) := fun w x0 => ((HX.out.keep_at w.below hgY).set 0 x0).cell rfl
  have z1 : ∀ (w : Later Y.heap.size Y) (x0 : Value), (w.val.setCell ⟨gu + 2, 0, none⟩ x0).frozen? ⟨gu + 2, 1, none⟩ = false := fun w x0 => ((HX.out.keep_at w.below hgY).set 0 x0).fz 1
  have hfin : ∀ (v : Later Y.heap.size Y) (nn : Int) (ad : Option Addr) (cp : Nat) (xs : List Int) (ee : Int) (tm : Array Value), Own Y.heap.size v.val ad cp xs → tm.getD 6 undef = .pointer (some ⟨gu + 2, 0, none⟩) → tm.getD 7 undef = .int .i64 ee → nn = n' → xs = xs' → ee = e → bodyPost Try.prog Try.f9 (RetP B W (MatTO B n' xs' e)) .ret { tmps := tm, defers := [] } ((v.val.setCell ⟨gu + 2, 0, none⟩ (.int .i64 nn)).setCell ⟨gu + 2, 1, none⟩ (.slice ad xs.length cp)) := fun v nn ad cp xs ee tm hO h4 h5 e1 e2 e3 => by
    subst e1 e2 e3
    refine bodyPost_ret (results_row (vs := [.int .i64 nn, .slice ad xs.length cp]) rfl _ _ (gu + 2) h4 (((HX.out.keep v.below).set 0 _).set 1 _) Try.underlying26 (by kernel_rfl)) rfl ?_
    obtain ⟨x1, hx1⟩ := later_set (HVY.out v) (g := gu + 2) (i := 0) (by omega) (.int .i64 nn)
    obtain ⟨x2, hx2⟩ := later_set ⟨x1, hx1⟩ (g := gu + 2) (i := 1) (by omega) (.slice ad xs.length cp)
    exact RetP.of ⟨x2, hx2⟩ ⟨ad, cp, by rw [h5], ((hO.set hgY _).set hgY _).mono (by omega)⟩
  have HF := Lib.hid hfin
  have HNo : Hid (e ≠ 0 → 0 = n' ∧ [] = xs') := Lib.hid (fun h => by have := hz h; exact ⟨this.1.symm, this.2.symm⟩)
  have KF : Hid (∀ v : Later Y.heap.size Y, Calls Try.prog 28 #[.int .i64 n, .slice a l.length cap] v.val (Ret Y.heap.size Y (.int .i64 (errno (decide (isFam n l)) 1)))) := Lib.hid (fun v => c_family v n l a cap HI.out (by omega))
  clear hfin hz
  obtain ⟨z, hzz⟩ : ∃ z : Later Y.heap.size Y, z.val = Y := ⟨Later.self _, rfl⟩
  rw [← hzz]
  clear hzz
  by_cases hfam : isFam n l
  case neg =>
    have e1 := Lib.hid (HE.out.1 hfam)
    have hno := Lib.hid (HNo.out (by have := e1.out; omega))
    rw [decide_eq_false hfam] at KF
    clear hfam
    go_wp2_with (first | (go_at_call 28; (with_reducible refine (KF.out _).mono ?_); rintro e _ ⟨rfl, v, rfl⟩) | fail)
    refine HF.out v 0 none 0 [] 1 _ (Own.nil _ _) ?_ ?_ hno.out.1 hno.out.2 e1.out.symm <;> rfl
  rw [decide_eq_true hfam] at KF
  go_upto_region 4 with (first | (go_at_call 28; (with_reducible refine (KF.out _).mono ?_); rintro e _ ⟨rfl, v, rfl⟩) | fail)
  clear z KF
  have q1v := q1 v
  have q2v := q2 v
  by_cases hll : mo.length = l.length
  case neg =>
    have e1 := Lib.hid (HE.out.2.1 hfam hll)
    have hno := Lib.hid (HNo.out (by have := e1.out; omega))
    have d1 : ((mo.length : Int) != (l.length : Int)) = true := by rw [bne_iff_ne]; omega
    have d2 : (mo.length != l.length) = true := by rw [bne_iff_ne]; omega
    have d3 : ((mo.length : Int) == (l.length : Int)) = false := by rw [beq_eq_false_iff_ne]; omega
    have HLL := Lib.hid hll
    clear hll hfam
    go_wp2
    refine HF.out v 0 none 0 [] 3 _ (Own.nil _ _) ?_ ?_ hno.out.1 hno.out.2 e1.out.symm <;> rfl
  obtain ⟨L, hlL, heL⟩ := HE.out.2.2 hfam hll
  subst hlL
  have H8 := Lib.hid (hL8 hfam L rfl)
  have hil : (ints L).length = L.length := ints_len L
  have HeL := Lib.hid heL
  rw [hil] at hll
  rw [hll] at q2 q2v
  rw [hil] at q1 q1v hcap hlen
  have HMl := Lib.hid hll
  clear heL hfam hL8 hil hll
  go_wp2_with fail
  go_loopw [29] (fun i wr => ∃ (k : Nat) (v : Later Y.heap.size Y), k ≤ L.length ∧ i = .int .i64 k ∧ wr = v.val ∧ Hid (lamE L mo k = 0)) (fun i _ => L.length - (intOf i).toNat)
  case atStart => exact ⟨0, v, by omega, rfl, rfl, Lib.hid rfl⟩
  case round =>
    clear v q1v q2v
    obtain ⟨k, v, hk, rfl, rfl, HK⟩ := hrel
    have q1v := q1 v
    have q2v := q2 v
    by_cases hlt : k < L.length
    · obtain ⟨bb, off, rfl, hbB, hcell⟩ := HI.out.at (k := k) (by rw [ints_len]; exact hlt)
      obtain ⟨b2, off2, rfl, hbB2, hcell2⟩ := HJ.out.at (k := k) (by rw [HMl.out]; exact hlt)
      have cA : Hid (∀ (v : Later Y.heap.size Y) (k : Nat), k < L.length → v.val.cell? ⟨bb, off + k, none⟩ = some (.int .i64 ((L.getD k 0 : Nat) : Int))) := Lib.hid (fun v k hk => by rw [← ints_getD]; exact hcell v k (by rw [ints_len]; exact hk))
      have c0 := cA.out v k hlt
      have c1 := hcell2 v k (by rw [HMl.out]; exact hlt)
      clear hcell hcell2
      rcases ilt (mo.getD k 0) 0 with ⟨g1, d1⟩ | ⟨g1, d1⟩
      · have e1 := Lib.hid (HeL.out.trans (lamE_neg HK.out g1 hlt))
        have hno := Lib.hid (HNo.out (by have := e1.out; omega))
        generalize L.getD k 0 = x at *
        generalize mo.getD k 0 = y at *
        go_wp2
        refine HF.out v 0 none 0 [] 1 _ (Own.nil _ _) ?_ ?_ hno.out.1 hno.out.2 e1.out.symm <;> rfl
      · have HC3 : Hid (∀ i, i < k → crs L k i = true → e = 3) := Lib.hid (fun i hi hc => HeL.out.trans (lamE_crs HK.out (by omega) hi hc hlt))
        have HC0 : Hid ((∀ i, i < k → crs L k i = false) → lamE L mo (k + 1) = 0) := Lib.hid (fun h => lamE_ok HK.out (by omega) h)
        have hx8 := H8.out k hlt
        have HXE : Hid (∀ i, crs L k i = (decide (L.getD k 0 &&& L.getD i 0 ≠ 0) && decide (L.getD k 0 &&& L.getD i 0 ≠ L.getD k 0) && decide (L.getD k 0 &&& L.getD i 0 ≠ L.getD i 0))) := Lib.hid (fun i => rfl)
        generalize hxk : L.getD k 0 = x at *
        generalize mo.getD k 0 = y at *
        clear hxk g1
        go_wp2_with fail
        go_loopw [44] (fun j wr => ∃ (i : Nat) (v : Later Y.heap.size Y), i ≤ k ∧ j = .int .i64 i ∧ wr = v.val ∧ Hid (∀ i', i' < i → crs L k i' = false)) (fun j _ => k - (intOf j).toNat)
        case atStart => exact ⟨0, v, by omega, rfl, rfl, Lib.hid (fun i hi => by omega)⟩
        case round =>
          clear v q1v q2v c0 c1
          obtain ⟨i, v, hi, rfl, rfl, HR⟩ := hrel
          by_cases hit : i < k
          · have c0 := cA.out v i (by omega)
            have hy8 := H8.out i (by omega)
            have HN : Hid (crs L k i = false → ∀ i', i' < i + 1 → crs L k i' = false) := Lib.hid (fun h i' hi' => by
              by_cases c : i' = i
              · subst c; exact h
              · exact HR.out i' (by omega))
            have H3 := HC3.out i hit
            have hxe := HXE.out i
            have hab : x &&& L.getD i 0 < 256 := Nat.lt_of_le_of_lt Nat.and_le_left hx8
            have o1 := i64_and x (L.getD i 0) (by omega) (by omega)
            generalize crs L k i = cr at *
            generalize L.getD i 0 = z at *
            generalize x &&& z = aw at *
            by_cases t1 : aw = 0
            · subst t1
              have hcr : cr = false := by rw [hxe]; simp
              have HN' := Lib.hid (HN.out hcr)
              go_wp2
              go_roundw
              case rel => exact ⟨i+1, v, by omega, by go_num, rfl, HN'⟩
              case measure => simp [intOf]; omega
            · have b1 : ((aw : Int) != 0) = true := by rw [bne_iff_ne]; omega
              have b1' : (aw != 0) = true := by rw [bne_iff_ne]; omega
              by_cases t2 : aw = x
              · have hcr : cr = false := by rw [hxe]; simp [t2]
                have HN' := Lib.hid (HN.out hcr)
                have b2 : ((aw : Int) != (x : Int)) = false := by rw [t2]; simp
                clear t2 hxe
                go_wp2
                go_roundw
                case rel => exact ⟨i+1, v, by omega, by go_num, rfl, HN'⟩
                case measure => simp [intOf]; omega
              · have b2 : ((aw : Int) != (x : Int)) = true := by rw [bne_iff_ne]; omega
                by_cases t3 : aw = z
                · have hcr : cr = false := by rw [hxe]; simp [t3]
                  have HN' := Lib.hid (HN.out hcr)
                  have b3 : ((aw : Int) != (z : Int)) = false := by rw [t3]; simp
                  clear t3 hxe
                  go_wp2
                  go_roundw
                  case rel => exact ⟨i+1, v, by omega, by go_num, rfl, HN'⟩
                  case measure => simp [intOf]; omega
                · have b3 : ((aw : Int) != (z : Int)) = true := by rw [bne_iff_ne]; omega
                  have e1 := Lib.hid (H3 (by rw [hxe]; simp [t1, t2, t3]))
                  have hno := Lib.hid (HNo.out (by have := e1.out; omega))
                  clear hxe H3
                  go_wp2
                  refine HF.out v 0 none 0 [] 3 _ (Own.nil _ _) ?_ ?_ hno.out.1 hno.out.2 e1.out.symm <;> rfl
          · have HN := Lib.hid (HC0.out (fun i' hi' => HR.out i' (by omega)))
            go_wp2
            go_roundw
            case rel => exact ⟨k+1, v, by omega, by go_num, rfl, HN⟩
            case measure => simp [intOf]; omega
    · have e1 := Lib.hid (show e = 0 by rw [HeL.out, show L.length = k by omega, HK.out])
      obtain ⟨m, L2, hmm, hm, hLL, hL8, hml, hn', hxs'⟩ := hy e1.out
      obtain rfl : L = L2 := ints_inj hLL
      subst hmm
      have KG : Hid (∀ x : Later Y.heap.size Y, Calls Try.prog 25 #[.int .i64 m, .func (.func 29) #[] #[.pointer (some ⟨gu, 0, none⟩), .pointer (some ⟨gu + 1, 0, none⟩)]] x.val (RetP Y.heap.size Y (MatO Y.heap.size m (ints (biggest (those m (lamB L mo))))))) := Lib.hid (fun x => c_greatest x m hm 29 _ (lamB L mo) (fun args w => by kernel_rfl) (fun x v s hs => by
        have hxz := x.size
        have := HYs.out
        exact c_kLamTell v L mo HMl.out (by omega) hL8 a b cap capb gu (gu + 1) (HI.out.to x) (HJ.out.to x) (by omega) (by omega) (by rw [x.cell (a := ⟨gu, 0, none⟩) (show gu < Y.heap.size by omega)]; exact HX1.out.c0) (by rw [x.cell (a := ⟨gu + 1, 0, none⟩) (show gu + 1 < Y.heap.size by omega)]; exact HX2.out.c0) s (by have := bit_le m hm; omega)))
      have HH := Lib.hid (And.intro hn' (And.intro hxs' e1.out))
      clear hn' hxs' hy e1 hLL hml
      generalize ints (biggest (those m (lamB L mo))) = A at *
      go_wp2_with (first | (go_at_call 25; (with_reducible refine (KG.out _).mono ?_); rintro e _ ⟨_, rfl, ⟨ad, cp, rfl, hO⟩, v2, rfl⟩) | fail)
      refine HF.out v2 m ad cp A 0 _ hO ?_ ?_ HH.out.1.symm HH.out.2.1.symm HH.out.2.2.symm <;> rfl

end Go.Proofs.Ytdieaijgoidocaa

namespace Go.Proofs.Ytdieaijgoidocaa
open Go.RowKit
set_option linter.unusedVariables false

theorem or_and {a b : Nat} : a ||| b = b ↔ a &&& b = a := by
  constructor
  · intro h
    rw [← h, Nat.and_comm, Nat.or_comm]
    exact Nat.eq_of_testBit_eq (fun i => by simp only [Nat.testBit_and, Nat.testBit_or]; cases a.testBit i <;> cases b.testBit i <;> rfl)
  · intro h
    have h2 : (a &&& b) ||| b = b := Nat.eq_of_testBit_eq (fun i => by simp only [Nat.testBit_and, Nat.testBit_or]; cases a.testBit i <;> cases b.testBit i <;> rfl)
    rw [h] at h2; exact h2

set_option maxRecDepth 100000 in
set_option maxHeartbeats 16000000 in
theorem c_refLam {B : Nat} {W : World} (u : Later B W) (n : Int) (l mo : List Int) (a b : Option Addr) (cap capb : Nat) (e n' : Int) (xs' : List Int) (h : IntsAt B W a l) (h2 : IntsAt B W b mo) (hlen : l.length ≤ 4611686018427387904) (hlen2 : mo.length ≤ 4611686018427387904) (hcap : l.length ≤ cap) (he : LamIs n l mo e) (hz : ZIf e n' xs')
    (hy : e = 0 → ∃ (m : Nat) (L : List Nat), n = (m : Int) ∧ m ≤ 8 ∧ l = ints L ∧ (∀ i, i < L.length → L.getD i 0 < 256) ∧ mo.length = L.length ∧ n' = m ∧ xs' = ints (biggest (those m (lamB L mo)))) (hL8 : isFam n l → ∀ L, l = ints L → ∀ i, i < L.length → L.getD i 0 < 256) :
    Calls Try.prog 6 #[.int .i64 n, .slice a l.length cap, .slice b mo.length capb] u.val (RetP B W (MatTO B n' xs' e)) := by
  have hB := u.size
  have k1 : (u.val.alloc (.cells #[.slice a l.length cap] 22)).heap.size = u.val.heap.size + 1 := by simp
  have k2 : ((u.val.alloc (.cells #[.slice a l.length cap] 22)).alloc (.cells #[.slice b mo.length capb] 22)).heap.size = u.val.heap.size + 2 := by simp
  have X1 : RowAt1 (((u.val.alloc (.cells #[.slice a l.length cap] 22)).alloc (.cells #[.slice b mo.length capb] 22)).alloc (.cells #[.int .i64 0, .slice none 0 0] 26)) u.val.heap.size 22 (.slice a l.length cap) := ((show RowAt1 (u.val.alloc (.cells #[.slice a l.length cap] 22)) u.val.heap.size 22 (.slice a l.length cap) from heap_alloc_new _ _).keep ((Below.refl _ _).alloc (Nat.le_refl _) _)).keep ((Below.refl _ _).alloc (Nat.le_refl _) _)
  have X2 : RowAt1 (((u.val.alloc (.cells #[.slice a l.length cap] 22)).alloc (.cells #[.slice b mo.length capb] 22)).alloc (.cells #[.int .i64 0, .slice none 0 0] 26)) (u.val.heap.size + 1) 22 (.slice b mo.length capb) := by
    have h : RowAt1 ((u.val.alloc (.cells #[.slice a l.length cap] 22)).alloc (.cells #[.slice b mo.length capb] 22)) (u.val.alloc (.cells #[.slice a l.length cap] 22)).heap.size 22 (.slice b mo.length capb) := heap_alloc_new _ _
    rw [k1] at h
    exact h.keep ((Below.refl _ _).alloc (Nat.le_refl _) _)
  have X3 : RowL (((u.val.alloc (.cells #[.slice a l.length cap] 22)).alloc (.cells #[.slice b mo.length capb] 22)).alloc (.cells #[.int .i64 0, .slice none 0 0] 26)) (u.val.heap.size + 2) 26 [.int .i64 0, .slice none 0 0] := by
    have h := RowL.new ((u.val.alloc (.cells #[.slice a l.length cap] 22)).alloc (.cells #[.slice b mo.length capb] 22)) 26 [.int .i64 0, .slice none 0 0]
    rwa [k2] at h
  have hYs : (((u.val.alloc (.cells #[.slice a l.length cap] 22)).alloc (.cells #[.slice b mo.length capb] 22)).alloc (.cells #[.int .i64 0, .slice none 0 0] 26)).heap.size = u.val.heap.size + 3 := by simp
  have HVY : Hid (∀ v : Later (((u.val.alloc (.cells #[.slice a l.length cap] 22)).alloc (.cells #[.slice b mo.length capb] 22)).alloc (.cells #[.int .i64 0, .slice none 0 0] 26)).heap.size (((u.val.alloc (.cells #[.slice a l.length cap] 22)).alloc (.cells #[.slice b mo.length capb] 22)).alloc (.cells #[.int .i64 0, .slice none 0 0] 26)), ∃ w : Later B W, w.val = v.val) := Lib.hid (fun v => ⟨(((u.alloc _).alloc _).alloc _).up v, rfl⟩)
  have HI : Hid (IntsAt (((u.val.alloc (.cells #[.slice a l.length cap] 22)).alloc (.cells #[.slice b mo.length capb] 22)).alloc (.cells #[.int .i64 0, .slice none 0 0] 26)).heap.size (((u.val.alloc (.cells #[.slice a l.length cap] 22)).alloc (.cells #[.slice b mo.length capb] 22)).alloc (.cells #[.int .i64 0, .slice none 0 0] 26)) a l) := Lib.hid (h.to (((u.alloc _).alloc _).alloc _))
  have HJ : Hid (IntsAt (((u.val.alloc (.cells #[.slice a l.length cap] 22)).alloc (.cells #[.slice b mo.length capb] 22)).alloc (.cells #[.int .i64 0, .slice none 0 0] 26)).heap.size (((u.val.alloc (.cells #[.slice a l.length cap] 22)).alloc (.cells #[.slice b mo.length capb] 22)).alloc (.cells #[.int .i64 0, .slice none 0 0] 26)) b mo) := Lib.hid (h2.to (((u.alloc _).alloc _).alloc _))
  have HX := Lib.hid X3
  have HX1 := Lib.hid X1
  have HX2 := Lib.hid X2
  have HYs := Lib.hid hYs
  have HE := Lib.hid he
  clear h h2 he k1 k2 X1 X2 X3 hYs
  go_enter Try.func6, Try.ntmps6
  go_upto_region 1 with fail
  generalize (((u.val.alloc (.cells #[.slice a l.length cap] 22)).alloc (.cells #[.slice b mo.length capb] 22)).alloc (.cells #[.int .i64 0, .slice none 0 0] 26)) = Y at *
  generalize u.val.heap.size = gu at *
  rw [show gu + 1 + 1 = gu + 2 from rfl]
  have hgY : gu + 2 < Y.heap.size := by have := HYs.out; omega
  have q1 : ∀ v : Later Y.heap.size Y, v.val.cell? ⟨gu, 0, none⟩ = some (.slice a l.length cap) := fun v => (HX1.out.keep v.below).c0
  have q2 : ∀ v : Later Y.heap.size Y, v.val.cell? ⟨gu + 1, 0, none⟩ = some (.slice b mo.length capb) := fun v => (HX2.out.keep v.below).c0
  have f0 : ∀ (w : Later Y.heap.size Y), w.val.cell? ⟨gu + 2, 0, none⟩ = some (.int .i64 0) := fun w => (HX.out.keep_at w.below hgY).cell rfl
  have z0 : ∀ (w : Later Y.heap.size Y), w.val.frozen? ⟨gu + 2, 0, none⟩ = false := fun w => (HX.out.keep_at w.below hgY).fz 0
  have f1 : ∀ (w : Later Y.heap.size Y) (x0 : Value), (w.val.setCell ⟨gu + 2, 0, none⟩ x0).cell? ⟨gu + 2, 1, none⟩ = some (.slice none 0 0) := fun w x0 => ((HX.out.keep_at w.below hgY).set 0 x0).cell rfl
  have z1 : ∀ (w : Later Y.heap.size Y) (x0 : Value), (w.val.setCell ⟨gu + 2, 0, none⟩ x0).frozen? ⟨gu + 2, 1, none⟩ = false := fun w x0 => ((HX.out.keep_at w.below hgY).set 0 x0).fz 1
  have hfin : ∀ (v : Later Y.heap.size Y) (nn : Int) (ad : Option Addr) (cp : Nat) (xs : List Int) (ee : Int) (tm : Array Value), Own Y.heap.size v.val ad cp xs → tm.getD 6 undef = .pointer (some ⟨gu + 2, 0, none⟩) → tm.getD 7 undef = .int .i64 ee → nn = n' → xs = xs' → ee = e → bodyPost Try.prog Try.f6 (RetP B W (MatTO B n' xs' e)) .ret { tmps := tm, defers := [] } ((v.val.setCell ⟨gu + 2, 0, none⟩ (.int .i64 nn)).setCell ⟨gu + 2, 1, none⟩ (.slice ad xs.length cp)) := fun v nn ad cp xs ee tm hO h4 h5 e1 e2 e3 => by
    subst e1 e2 e3
    refine bodyPost_ret (results_row (vs := [.int .i64 nn, .slice ad xs.length cp]) rfl _ _ (gu + 2) h4 (((HX.out.keep v.below).set 0 _).set 1 _) Try.underlying26 (by kernel_rfl)) rfl ?_
    obtain ⟨x1, hx1⟩ := later_set (HVY.out v) (g := gu + 2) (i := 0) (by omega) (.int .i64 nn)
    obtain ⟨x2, hx2⟩ := later_set ⟨x1, hx1⟩ (g := gu + 2) (i := 1) (by omega) (.slice ad xs.length cp)
    exact RetP.of ⟨x2, hx2⟩ ⟨ad, cp, by rw [h5], ((hO.set hgY _).set hgY _).mono (by omega)⟩
  have HF := Lib.hid hfin
  have HNo : Hid (e ≠ 0 → 0 = n' ∧ [] = xs') := Lib.hid (fun h => by have := hz h; exact ⟨this.1.symm, this.2.symm⟩)
  have KF : Hid (∀ v : Later Y.heap.size Y, Calls Try.prog 19 #[.int .i64 n, .slice a l.length cap] v.val (Ret Y.heap.size Y (.bool (decide (isFam n l))))) := Lib.hid (fun v => c_isFamily v n l a cap HI.out (by omega))
  clear hfin hz
  obtain ⟨z, hzz⟩ : ∃ z : Later Y.heap.size Y, z.val = Y := ⟨Later.self _, rfl⟩
  rw [← hzz]
  clear hzz
  by_cases hfam : isFam n l
  case neg =>
    have e1 := Lib.hid (HE.out.1 hfam)
    have hno := Lib.hid (HNo.out (by have := e1.out; omega))
    rw [decide_eq_false hfam] at KF
    clear hfam
    go_wp2_with (first | (go_at_call 19; (with_reducible refine (KF.out _).mono ?_); rintro e _ ⟨rfl, v, rfl⟩) | fail)
    refine HF.out v 0 none 0 [] 1 _ (Own.nil _ _) ?_ ?_ hno.out.1 hno.out.2 e1.out.symm <;> rfl
  rw [decide_eq_true hfam] at KF
  go_upto_region 3 with (first | (go_at_call 19; (with_reducible refine (KF.out _).mono ?_); rintro e _ ⟨rfl, v, rfl⟩) | fail)
  clear z KF
  have q1v := q1 v
  have q2v := q2 v
  by_cases hll : mo.length = l.length
  case neg =>
    have e1 := Lib.hid (HE.out.2.1 hfam hll)
    have hno := Lib.hid (HNo.out (by have := e1.out; omega))
    have d1 : ((l.length : Int) != (mo.length : Int)) = true := by rw [bne_iff_ne]; omega
    have d2 : (l.length != mo.length) = true := by rw [bne_iff_ne]; omega
    have d3 : ((l.length : Int) == (mo.length : Int)) = false := by rw [beq_eq_false_iff_ne]; omega
    have HLL := Lib.hid hll
    clear hll hfam
    go_wp2
    refine HF.out v 0 none 0 [] 3 _ (Own.nil _ _) ?_ ?_ hno.out.1 hno.out.2 e1.out.symm <;> rfl
  obtain ⟨L, hlL, heL⟩ := HE.out.2.2 hfam hll
  subst hlL
  have H8 := Lib.hid (hL8 hfam L rfl)
  have hil : (ints L).length = L.length := ints_len L
  have HeL := Lib.hid heL
  rw [hil] at hll
  rw [hll] at q2 q2v
  rw [hil] at q1 q1v hcap hlen
  have HMl := Lib.hid hll
  clear heL hfam hL8 hil hll
  go_wp2_with fail
  go_loopw [8] (fun i wr => ∃ (k : Nat) (v : Later Y.heap.size Y), k ≤ L.length ∧ i = .int .i64 k ∧ wr = v.val ∧ Hid (lamE L mo k = 0)) (fun i _ => L.length - (intOf i).toNat)
  case atStart => exact ⟨0, v, by omega, rfl, rfl, Lib.hid rfl⟩
  case round =>
    clear v q1v q2v
    obtain ⟨k, v, hk, rfl, rfl, HK⟩ := hrel
    have q1v := q1 v
    have q2v := q2 v
    by_cases hlt : k < L.length
    · obtain ⟨bb, off, rfl, hbB, hcell⟩ := HI.out.at (k := k) (by rw [ints_len]; exact hlt)
      obtain ⟨b2, off2, rfl, hbB2, hcell2⟩ := HJ.out.at (k := k) (by rw [HMl.out]; exact hlt)
      have cA : Hid (∀ (v : Later Y.heap.size Y) (k : Nat), k < L.length → v.val.cell? ⟨bb, off + k, none⟩ = some (.int .i64 ((L.getD k 0 : Nat) : Int))) := Lib.hid (fun v k hk => by rw [← ints_getD]; exact hcell v k (by rw [ints_len]; exact hk))
      have c0 := cA.out v k hlt
      have c1 := hcell2 v k (by rw [HMl.out]; exact hlt)
      clear hcell hcell2
      rcases ilt (mo.getD k 0) 0 with ⟨g1, d1⟩ | ⟨g1, d1⟩
      · have e1 := Lib.hid (HeL.out.trans (lamE_neg HK.out g1 hlt))
        have hno := Lib.hid (HNo.out (by have := e1.out; omega))
        generalize L.getD k 0 = x at *
        generalize mo.getD k 0 = y at *
        go_wp2
        refine HF.out v 0 none 0 [] 1 _ (Own.nil _ _) ?_ ?_ hno.out.1 hno.out.2 e1.out.symm <;> rfl
      · have HC3 : Hid (∀ i, i < k → crs L k i = true → e = 3) := Lib.hid (fun i hi hc => HeL.out.trans (lamE_crs HK.out (by omega) hi hc hlt))
        have HC0 : Hid ((∀ i, i < k → crs L k i = false) → lamE L mo (k + 1) = 0) := Lib.hid (fun h => lamE_ok HK.out (by omega) h)
        have hx8 := H8.out k hlt
        have HXE : Hid (∀ i, crs L k i = (decide (L.getD k 0 &&& L.getD i 0 ≠ 0) && decide (L.getD k 0 &&& L.getD i 0 ≠ L.getD k 0) && decide (L.getD k 0 &&& L.getD i 0 ≠ L.getD i 0))) := Lib.hid (fun i => rfl)
        have cK : ∀ v : Later Y.heap.size Y, v.val.cell? ⟨bb, off + k, none⟩ = some (.int .i64 ((L.getD k 0 : Nat) : Int)) := fun v => cA.out v k hlt
        generalize hxk : L.getD k 0 = x at *
        generalize mo.getD k 0 = y at *
        clear hxk g1
        go_wp2_with fail
        go_loopw [9] (fun j wr => ∃ (i : Nat) (v : Later Y.heap.size Y), i ≤ k ∧ j = .int .i64 i ∧ wr = v.val ∧ Hid (∀ i', i' < i → crs L k i' = false)) (fun j _ => k - (intOf j).toNat)
        case atStart => exact ⟨0, v, by omega, rfl, rfl, Lib.hid (fun i hi => by omega)⟩
        case round =>
          clear v q1v q2v c0 c1
          obtain ⟨i, v, hi, rfl, rfl, HR⟩ := hrel
          by_cases hit : i < k
          · have c0 : ∀ v : Later Y.heap.size Y, v.val.cell? ⟨bb, off + i, none⟩ = some (.int .i64 ((L.getD i 0 : Nat) : Int)) := fun v => cA.out v i (by omega)
            have hy8 := H8.out i (by omega)
            have hiL : i < L.length := by omega
            have HN : Hid (crs L k i = false → ∀ i', i' < i + 1 → crs L k i' = false) := Lib.hid (fun h i' hi' => by
              by_cases c : i' = i
              · subst c; exact h
              · exact HR.out i' (by omega))
            have H3 := HC3.out i hit
            have hxe := HXE.out i
            have hab : x &&& L.getD i 0 < 256 := Nat.lt_of_le_of_lt Nat.and_le_left hx8
            have o1 := i64_and x (L.getD i 0) (by omega) (by omega)
            have KW1 : Hid (∀ v : Later Y.heap.size Y, Calls Try.prog 16 #[.int .i64 x, .int .i64 (L.getD i 0 : Nat)] v.val (Ret Y.heap.size Y (.bool (decide (x &&& L.getD i 0 = x))))) := Lib.hid (fun v => by
              rw [show decide (x &&& L.getD i 0 = x) = decide (x ||| L.getD i 0 = L.getD i 0) from decide_eq_decide.2 or_and.symm]
              exact c_within v _ _ (by omega) (by omega))
            have KW2 : Hid (∀ v : Later Y.heap.size Y, Calls Try.prog 16 #[.int .i64 (L.getD i 0 : Nat), .int .i64 x] v.val (Ret Y.heap.size Y (.bool (decide (x &&& L.getD i 0 = L.getD i 0))))) := Lib.hid (fun v => by
              rw [show decide (x &&& L.getD i 0 = L.getD i 0) = decide (L.getD i 0 ||| x = x) from decide_eq_decide.2 (by rw [or_and, Nat.and_comm])]
              exact c_within v _ _ (by omega) (by omega))
            generalize crs L k i = cr at *
            generalize L.getD i 0 = z at *
            generalize x &&& z = aw at *
            by_cases t1 : aw = 0
            · subst t1
              have hcr : cr = false := by rw [hxe]; simp
              have HN' := Lib.hid (HN.out hcr)
              clear KW1 KW2
              go_upto_region 13 with fail
              refine wp_region_later v (by kernel_rfl) (by kernel_rfl) (fun _ => ?_)
              repeat (first | go_big_quiet_step ((fail)) | (refine wpQuiet_step (fun K hK => ?_); go_simp; refine ⟨_, fun _ => rfl, ?_⟩; refine hK _ ?_; clear hK K))
              refine wpQuiet_nil ?_
              intro v
              go_wp2
              go_roundw
              case rel => exact ⟨i+1, v, by omega, by go_num, rfl, HN'⟩
              case measure => simp [intOf]; omega
            · have b1 : ((aw : Int) != 0) = true := by rw [bne_iff_ne]; omega
              have b1' : (aw != 0) = true := by rw [bne_iff_ne]; omega
              by_cases t2 : aw = x
              · have hcr : cr = false := by rw [hxe]; simp [t2]
                have HN' := Lib.hid (HN.out hcr)
                have b2 : decide (aw = x) = true := decide_eq_true t2
                rw [b2] at KW1
                clear t2 hxe KW2
                go_upto_region 13 with fail
                refine wp_region_later v (by kernel_rfl) (by kernel_rfl) (fun _ => ?_)
                repeat (first | go_big_quiet_step (((go_at_call 16; exact KW1.out _))) | (refine wpQuiet_step (fun K hK => ?_); go_simp; refine ⟨_, fun _ => rfl, ?_⟩; refine hK _ ?_; clear hK K))
                refine wpQuiet_nil ?_
                intro v
                go_wp2
                go_roundw
                case rel => exact ⟨i+1, v, by omega, by go_num, rfl, HN'⟩
                case measure => simp [intOf]; omega
              · have b2 : decide (aw = x) = false := decide_eq_false t2
                rw [b2] at KW1
                by_cases t3 : aw = z
                · have hcr : cr = false := by rw [hxe]; simp [t3]
                  have HN' := Lib.hid (HN.out hcr)
                  have b3 : decide (aw = z) = true := decide_eq_true t3
                  rw [b3] at KW2
                  clear t3 hxe
                  go_upto_region 13 with fail
                  refine wp_region_later v (by kernel_rfl) (by kernel_rfl) (fun _ => ?_)
                  repeat (first | go_big_quiet_step ((first | (go_at_call 16; exact KW1.out _) | (go_at_call 16; exact KW2.out _))) | (refine wpQuiet_step (fun K hK => ?_); go_simp; refine ⟨_, fun _ => rfl, ?_⟩; refine hK _ ?_; clear hK K))
                  refine wpQuiet_nil ?_
                  intro v
                  go_wp2
                  go_roundw
                  case rel => exact ⟨i+1, v, by omega, by go_num, rfl, HN'⟩
                  case measure => simp [intOf]; omega
                · have b3 : decide (aw = z) = false := decide_eq_false t3
                  rw [b3] at KW2
                  have e1 := Lib.hid (H3 (by rw [hxe]; simp [t1, t2, t3]))
                  have hno := Lib.hid (HNo.out (by have := e1.out; omega))
                  clear hxe H3
                  go_upto_region 13 with fail
                  refine wp_region_later v (by kernel_rfl) (by kernel_rfl) (fun _ => ?_)
                  repeat (first | go_big_quiet_step ((first | (go_at_call 16; exact KW1.out _) | (go_at_call 16; exact KW2.out _))) | (refine wpQuiet_step (fun K hK => ?_); go_simp; refine ⟨_, fun _ => rfl, ?_⟩; refine hK _ ?_; clear hK K))
                  refine wpQuiet_nil ?_
                  intro v
                  go_wp2
                  refine HF.out v 0 none 0 [] 3 _ (Own.nil _ _) ?_ ?_ hno.out.1 hno.out.2 e1.out.symm <;> rfl
          · have HN := Lib.hid (HC0.out (fun i' hi' => HR.out i' (by omega)))
            go_wp2
            go_roundw
            case rel => exact ⟨k+1, v, by omega, by go_num, rfl, HN⟩
            case measure => simp [intOf]; omega
    · have e1 := Lib.hid (show e = 0 by rw [HeL.out, show L.length = k by omega, HK.out])
      obtain ⟨m, L2, hmm, hm, hLL, hL8, hml, hn', hxs'⟩ := hy e1.out
      obtain rfl : L = L2 := ints_inj hLL
      subst hmm
      have KT : Hid (∀ x : Later Y.heap.size Y, Calls Try.prog 14 #[.int .i64 m, .func (.func 20) #[] #[.pointer (some ⟨gu, 0, none⟩), .pointer (some ⟨gu + 1, 0, none⟩)]] x.val (RetOwn Y.heap.size Y (ints (those m (lamB L mo))))) := Lib.hid (fun x => c_those_own x m hm 20 _ (lamB L mo) (fun args w => by kernel_rfl) (fun x v s hs => by
        have hxz := x.size
        have := HYs.out
        exact c_refLamTell v L mo HMl.out (by omega) hL8 a b cap capb gu (gu + 1) (HI.out.to x) (HJ.out.to x) (by omega) (by omega) (by rw [x.cell (a := ⟨gu, 0, none⟩) (show gu < Y.heap.size by omega)]; exact HX1.out.c0) (by rw [x.cell (a := ⟨gu + 1, 0, none⟩) (show gu + 1 < Y.heap.size by omega)]; exact HX2.out.c0) s (by have := bit_le m hm; omega)))
      have HMt : Hid ((those m (lamB L mo)).length ≤ 1048576 ∧ ∀ s, s ∈ those m (lamB L mo) → s < 256) := Lib.hid ⟨by
        have h1 := thoseTo_len (lamB L mo) (bit m)
        have e : those m (lamB L mo) = thoseTo (lamB L mo) (bit m) := rfl
        have := bit_le m hm
        rw [e]; omega, fun s hs => by have := (mem_those.1 hs).1; have := bit_le m hm; omega⟩
      have KB : Hid (∀ (x : Later Y.heap.size Y) (ad : Option Addr) (cp : Nat), IntsAt x.val.heap.size x.val ad (ints (those m (lamB L mo))) → Calls Try.prog 18 #[.slice ad (ints (those m (lamB L mo))).length cp] x.val (RetOwn x.val.heap.size x.val (ints (biggest (those m (lamB L mo)))))) := Lib.hid (fun x ad cp hh => c_biggest_own (Later.self x.val) _ ad cp hh HMt.out.1 HMt.out.2)
      have HH := Lib.hid (And.intro hn' (And.intro hxs' e1.out))
      clear hn' hxs' hy e1 hLL hml HMt
      generalize ints (biggest (those m (lamB L mo))) = A at *
      generalize ints (those m (lamB L mo)) = T at *
      go_upto_if 76 with (first | (go_at_call 14; (with_reducible refine (KT.out _).mono ?_); rintro e _ ⟨_, rfl, ⟨ad1, cp1, rfl, hO1⟩, v1, rfl⟩) | fail)
      have KB1 := Lib.hid (KB.out v1 ad1 cp1 hO1.reads)
      have hv1 := v1.size
      clear KB KT hO1
      go_wp2_with (first | (go_at_call 18; (with_reducible refine (KB1.out).mono ?_); rintro e _ ⟨_, rfl, ⟨ad, cp, rfl, hO⟩, w2, rfl⟩; obtain ⟨v2, hv2⟩ : ∃ v2 : Later Y.heap.size Y, v2.val = w2.val := ⟨v1.up w2, rfl⟩; rw [← hv2] at hO ⊢; clear hv2) | fail)
      have hO' := hO.mono (show Y.heap.size ≤ _ by omega)
      refine HF.out v2 m ad cp A 0 _ hO' ?_ ?_ HH.out.1.symm HH.out.2.1.symm HH.out.2.2.symm <;> rfl

end Go.Proofs.Ytdieaijgoidocaa
