
/-
  rotaref.Named$1, rotaref.Named$2.
  kinds.Named.
  rotaref.Named.
-/
import Derived.Test.YtdieaijgoidocaaPk35
import Derived.Test.YtdieaijgoidocaaPk24
import Derived.Test.YtdieaijgoidocaaPk11
import Derived.Test.YtdieaijgoidocaaPk30
import Derived.Test.YtdieaijgoidocaaPk32
namespace Go.Proofs.Ytdieaijgoidocaa
open Go.RowKit
set_option linter.unusedVariables false

theorem ints_new (w : World) (xs : List Int) (t : TypeId) : IntsAt (w.alloc (.cells (xs.map (Value.int .i64)).toArray t)).heap.size (w.alloc (.cells (xs.map (Value.int .i64)).toArray t)) (some ⟨w.heap.size, 0, none⟩) xs := by
  intro _
  refine ⟨w.heap.size, 0, rfl, by simp, fun k hk => ?_⟩
  have h : (w.alloc (.cells (xs.map (Value.int .i64)).toArray t)).heap[w.heap.size]? = some (.cells (xs.map (Value.int .i64)).toArray t (0, 0)) := heap_alloc_new w _
  rw [Nat.zero_add, cell_of_row _ w.heap.size k _ _ _ h]
  simp [hk]

theorem set_new {B : Nat} {W : World} (y : Later B W) (O : List Nat) (hO : ∀ j, j < O.length → O.getD j 0 < 8) (h8 : O.length ≤ 8) (t : TypeId) :
    Calls Try.prog 23 #[.slice (some ⟨y.val.heap.size, 0, none⟩) O.length O.length] (y.val.alloc (.cells ((ints O).map (Value.int .i64)).toArray t)) (Ret B W (.int .i64 (prfT O O.length))) := by
  refine (c_setOf (Later.self (y.val.alloc (.cells ((ints O).map (Value.int .i64)).toArray t))) O _ O.length O.length (ints_new y.val (ints O) t) (Nat.le_refl _) h8 hO).mono ?_
  rintro e _ ⟨rfl, w2, rfl⟩
  exact Ret.mk ((y.alloc _).up w2) rfl

/-- a line of the plane -/
def lineO (i : Nat) : List Nat := [i, (i + 1) % 7, (i + 3) % 7]
def lineS (i : Nat) : Nat := prfT (lineO i) 3
/-- three that are no line's -/
def fanB (lines s : Nat) : Bool := (List.range lines).all (fun i => decide (s ≠ lineS i)) && decide (sz s = 3)
/-- four that are none of five -/
def vamB (s : Nat) : Bool := decide (sz s = 4) && decide (s ≠ 15) && decide (s ≠ 51) && decide (s ≠ 60) && decide (s ≠ 195) && decide (s ≠ 204)

set_option maxRecDepth 100000 in
set_option maxHeartbeats 8000000 in
theorem c_vamTell {B : Nat} {W : World} (u : Later B W) (s : Nat) (hs : s < 256) :
    Calls Try.prog 22 #[.int .i64 s] u.val (Ret B W (.bool (vamB s))) := by
  have K1 : Hid (∀ y : Later B W, Calls Try.prog 23 #[.slice (some ⟨y.val.heap.size, 0, none⟩) 4 4] (y.val.alloc (.cells #[.int .i64 0, .int .i64 1, .int .i64 2, .int .i64 3] 3)) (Ret B W (.int .i64 15))) := Lib.hid (fun y => set_new y [0, 1, 2, 3] (by decide) (by decide) _)
  have K2 : Hid (∀ y : Later B W, Calls Try.prog 23 #[.slice (some ⟨y.val.heap.size, 0, none⟩) 4 4] (y.val.alloc (.cells #[.int .i64 0, .int .i64 1, .int .i64 4, .int .i64 5] 3)) (Ret B W (.int .i64 51))) := Lib.hid (fun y => set_new y [0, 1, 4, 5] (by decide) (by decide) _)
  have K3 : Hid (∀ y : Later B W, Calls Try.prog 23 #[.slice (some ⟨y.val.heap.size, 0, none⟩) 4 4] (y.val.alloc (.cells #[.int .i64 2, .int .i64 3, .int .i64 4, .int .i64 5] 3)) (Ret B W (.int .i64 60))) := Lib.hid (fun y => set_new y [2, 3, 4, 5] (by decide) (by decide) _)
  have K4 : Hid (∀ y : Later B W, Calls Try.prog 23 #[.slice (some ⟨y.val.heap.size, 0, none⟩) 4 4] (y.val.alloc (.cells #[.int .i64 0, .int .i64 1, .int .i64 6, .int .i64 7] 3)) (Ret B W (.int .i64 195))) := Lib.hid (fun y => set_new y [0, 1, 6, 7] (by decide) (by decide) _)
  have K5 : Hid (∀ y : Later B W, Calls Try.prog 23 #[.slice (some ⟨y.val.heap.size, 0, none⟩) 4 4] (y.val.alloc (.cells #[.int .i64 2, .int .i64 3, .int .i64 6, .int .i64 7] 3)) (Ret B W (.int .i64 204))) := Lib.hid (fun y => set_new y [2, 3, 6, 7] (by decide) (by decide) _)
  have KS := Lib.hid (fun v : Later B W => c_size v s hs)
  have HR : Hid (vamB s = (decide (sz s = 4) && decide (s ≠ 15) && decide (s ≠ 51) && decide (s ≠ 60) && decide (s ≠ 195) && decide (s ≠ 204))) := Lib.hid rfl
  generalize vamB s = r at *
  generalize sz s = z at *
  by_cases h0 : z = 4
  case neg =>
    have d0 : decide (z = 4) = false := decide_eq_false h0
    have hr : r = false := by rw [HR.out, d0]; rfl
    have b0 : ((z : Int) == 4) = false := by rw [beq_eq_false_iff_ne]; omega
    subst hr
    clear HR d0
    have H0 := Lib.hid h0
    clear h0
    go_enter Try.func22, Try.ntmps22
    go_wp2_with (first | (go_at_call 17; (with_reducible refine (KS.out _).mono ?_); rintro e _ ⟨rfl, v, rfl⟩) | fail)
    go_ret
    exact Ret.mk v rfl
  subst h0
  by_cases e1 : s = 15
  · have hr : r = false := by rw [HR.out, e1]; rfl
    subst hr
    have b1 : ((s : Int) != 15) = false := by rw [e1]; rfl
    have He1 := Lib.hid e1
    clear HR hs e1
    go_enter Try.func22, Try.ntmps22
    go_wp2_with (first | (go_at_call 17; (with_reducible refine (KS.out _).mono ?_); rintro e _ ⟨rfl, v, rfl⟩) | (go_at_call 23; (first | (with_reducible refine (K1.out _).mono ?_) | (with_reducible refine (K2.out _).mono ?_) | (with_reducible refine (K3.out _).mono ?_) | (with_reducible refine (K4.out _).mono ?_) | (with_reducible refine (K5.out _).mono ?_)); rintro e _ ⟨rfl, v, rfl⟩) | fail)
    go_ret
    exact Ret.mk v rfl
  have b1 : ((s : Int) != 15) = true := by rw [bne_iff_ne]; omega
  by_cases e2 : s = 51
  · have hr : r = false := by rw [HR.out, e2]; rfl
    subst hr
    have b2 : ((s : Int) != 51) = false := by rw [e2]; rfl
    have He2 := Lib.hid e2
    clear HR hs e2
    go_enter Try.func22, Try.ntmps22
    go_wp2_with (first | (go_at_call 17; (with_reducible refine (KS.out _).mono ?_); rintro e _ ⟨rfl, v, rfl⟩) | (go_at_call 23; (first | (with_reducible refine (K1.out _).mono ?_) | (with_reducible refine (K2.out _).mono ?_) | (with_reducible refine (K3.out _).mono ?_) | (with_reducible refine (K4.out _).mono ?_) | (with_reducible refine (K5.out _).mono ?_)); rintro e _ ⟨rfl, v, rfl⟩) | fail)
    go_ret
    exact Ret.mk v rfl
  have b2 : ((s : Int) != 51) = true := by rw [bne_iff_ne]; omega
  by_cases e3 : s = 60
  · have hr : r = false := by rw [HR.out, e3]; rfl
    subst hr
    have b3 : ((s : Int) != 60) = false := by rw [e3]; rfl
    have He3 := Lib.hid e3
    clear HR hs e3
    go_enter Try.func22, Try.ntmps22
    go_wp2_with (first | (go_at_call 17; (with_reducible refine (KS.out _).mono ?_); rintro e _ ⟨rfl, v, rfl⟩) | (go_at_call 23; (first | (with_reducible refine (K1.out _).mono ?_) | (with_reducible refine (K2.out _).mono ?_) | (with_reducible refine (K3.out _).mono ?_) | (with_reducible refine (K4.out _).mono ?_) | (with_reducible refine (K5.out _).mono ?_)); rintro e _ ⟨rfl, v, rfl⟩) | fail)
    go_ret
    exact Ret.mk v rfl
  have b3 : ((s : Int) != 60) = true := by rw [bne_iff_ne]; omega
  by_cases e4 : s = 195
  · have hr : r = false := by rw [HR.out, e4]; rfl
    subst hr
    have b4 : ((s : Int) != 195) = false := by rw [e4]; rfl
    have He4 := Lib.hid e4
    clear HR hs e4
    go_enter Try.func22, Try.ntmps22
    go_wp2_with (first | (go_at_call 17; (with_reducible refine (KS.out _).mono ?_); rintro e _ ⟨rfl, v, rfl⟩) | (go_at_call 23; (first | (with_reducible refine (K1.out _).mono ?_) | (with_reducible refine (K2.out _).mono ?_) | (with_reducible refine (K3.out _).mono ?_) | (with_reducible refine (K4.out _).mono ?_) | (with_reducible refine (K5.out _).mono ?_)); rintro e _ ⟨rfl, v, rfl⟩) | fail)
    go_ret
    exact Ret.mk v rfl
  have b4 : ((s : Int) != 195) = true := by rw [bne_iff_ne]; omega
  by_cases e5 : s = 204
  · have hr : r = false := by rw [HR.out, e5]; rfl
    subst hr
    have b5 : ((s : Int) != 204) = false := by rw [e5]; rfl
    have He5 := Lib.hid e5
    clear HR hs e5
    go_enter Try.func22, Try.ntmps22
    go_wp2_with (first | (go_at_call 17; (with_reducible refine (KS.out _).mono ?_); rintro e _ ⟨rfl, v, rfl⟩) | (go_at_call 23; (first | (with_reducible refine (K1.out _).mono ?_) | (with_reducible refine (K2.out _).mono ?_) | (with_reducible refine (K3.out _).mono ?_) | (with_reducible refine (K4.out _).mono ?_) | (with_reducible refine (K5.out _).mono ?_)); rintro e _ ⟨rfl, v, rfl⟩) | fail)
    go_ret
    exact Ret.mk v rfl
  have b5 : ((s : Int) != 204) = true := by rw [bne_iff_ne]; omega
  have hr : r = true := by rw [HR.out, decide_eq_true e1, decide_eq_true e2, decide_eq_true e3, decide_eq_true e4, decide_eq_true e5]; rfl
  subst hr
  have HEs := Lib.hid (And.intro e1 (And.intro e2 (And.intro e3 (And.intro e4 e5))))
  clear HR hs e1 e2 e3 e4 e5
  go_enter Try.func22, Try.ntmps22
  go_wp2_with (first | (go_at_call 17; (with_reducible refine (KS.out _).mono ?_); rintro e _ ⟨rfl, v, rfl⟩) | (go_at_call 23; (first | (with_reducible refine (K1.out _).mono ?_) | (with_reducible refine (K2.out _).mono ?_) | (with_reducible refine (K3.out _).mono ?_) | (with_reducible refine (K4.out _).mono ?_) | (with_reducible refine (K5.out _).mono ?_)); rintro e _ ⟨rfl, v, rfl⟩) | fail)
  go_ret
  exact Ret.mk v rfl

set_option maxRecDepth 100000 in
set_option maxHeartbeats 8000000 in
theorem c_fanTell {B : Nat} {W : World} (u : Later B W) (lines s gl : Nat) (hl : lines ≤ 7) (hg : gl < B) (hc : W.cell? ⟨gl, 0, none⟩ = some (.int .i64 lines)) (hs : s < 256) :
    Calls Try.prog 24 #[.int .i64 s, .pointer (some ⟨gl, 0, none⟩)] u.val (Ret B W (.bool (fanB lines s))) := by
  have q0 : ∀ v : Later B W, v.val.cell? ⟨gl, 0, none⟩ = some (.int .i64 lines) := fun v => by rw [v.cell (a := ⟨gl, 0, none⟩) hg, hc]
  have KS := Lib.hid (fun v : Later B W => c_size v s hs)
  have HN : Hid (∀ i, i < lines → s = lineS i → fanB lines s = false) := Lib.hid (fun i hi h => by
    unfold fanB
    rw [Bool.and_eq_false_iff]
    exact .inl (List.all_eq_false.2 ⟨i, List.mem_range.2 hi, by simp [h]⟩))
  have HY : Hid ((∀ i, i < lines → s ≠ lineS i) → fanB lines s = decide (sz s = 3)) := Lib.hid (fun h => by
    unfold fanB
    rw [List.all_eq_true.2 (fun i hi => decide_eq_true (h i (List.mem_range.1 hi))), Bool.true_and])
  have KL : Hid (∀ (i : Nat), i < 7 → ∀ y : Later B W, Calls Try.prog 23 #[.slice (some ⟨y.val.heap.size, 0, none⟩) 3 3] (y.val.alloc (.cells #[.int .i64 (i : Nat), .int .i64 (((i + 1) % 7 : Nat) : Int), .int .i64 (((i + 3) % 7 : Nat) : Int)] 3)) (Ret B W (.int .i64 (lineS i : Nat)))) := Lib.hid (fun i hi y => set_new y (lineO i) (by
    have : ∀ i : Fin 7, ∀ j : Fin 3, (lineO i.val).getD j.val 0 < 8 := by decide
    intro j hj
    exact this ⟨i, hi⟩ ⟨j, hj⟩) (show 3 ≤ 8 by decide) _)
  have HRm : Hid (∀ i : Nat, i < 7 → ((i : Int) + 1) % 7 = (((i + 1) % 7 : Nat) : Int) ∧ ((i : Int) + 3) % 7 = (((i + 3) % 7 : Nat) : Int) ∧ Int.tmod ((i : Int) + 1) 7 = (((i + 1) % 7 : Nat) : Int) ∧ Int.tmod ((i : Int) + 3) 7 = (((i + 3) % 7 : Nat) : Int)) := Lib.hid (fun i hi => ⟨by omega, by omega, by
    have : ∀ i : Fin 7, Int.tmod ((i.val : Int) + 1) 7 = (((i.val + 1) % 7 : Nat) : Int) := by decide
    exact this ⟨i, hi⟩, by
    have : ∀ i : Fin 7, Int.tmod ((i.val : Int) + 3) 7 = (((i.val + 3) % 7 : Nat) : Int) := by decide
    exact this ⟨i, hi⟩⟩)
  clear hc
  generalize fanB lines s = r at *
  have q0u := q0 u
  go_enter Try.func24, Try.ntmps24
  go_wp2
  go_loopw [4] (fun iv wr => ∃ (k : Nat) (v : Later B W), k ≤ lines ∧ iv = .int .i64 k ∧ wr = v.val ∧ Hid (∀ i, i < k → s ≠ lineS i)) (fun i _ => lines - (intOf i).toNat)
  case atStart => exact ⟨0, u, by omega, rfl, rfl, Lib.hid (fun i hi => by omega)⟩
  case round =>
    clear u q0u
    obtain ⟨k, v, hk, rfl, rfl, hf⟩ := hrel
    have q0v := q0 v
    by_cases hlt : k < lines
    · have hm := HRm.out k (by omega)
      have m1 := hm.1
      have m2 := hm.2.1
      have m3 := hm.2.2.1
      have m4 := hm.2.2.2
      have KL1 := Lib.hid (KL.out k (by omega))
      have HN1 : Hid (s = lineS k → r = false) := Lib.hid (HN.out k hlt)
      have HF1 : Hid (s ≠ lineS k → ∀ i, i < k + 1 → s ≠ lineS i) := Lib.hid (fun h i hi => by
        by_cases c : i = k
        · subst c; exact h
        · exact hf.out i (by omega))
      clear hm hf
      generalize lineS k = ls at *
      generalize (k + 1) % 7 = ka at *
      generalize (k + 3) % 7 = kb at *
      by_cases c : s = ls
      · have hr := HN1.out c
        subst hr
        subst c
        clear HN1 HF1 HN HY
        go_wp2_with (first | (go_at_call 23; (with_reducible refine (KL1.out _).mono ?_); rintro e _ ⟨rfl, v, rfl⟩) | fail)
        go_ret
        exact Ret.mk v rfl
      · have HF2 := Lib.hid (HF1.out c)
        have b1 : ((s : Int) == (ls : Int)) = false := by rw [beq_eq_false_iff_ne]; omega
        have b2 : (s == ls) = false := by rw [beq_eq_false_iff_ne]; exact c
        have HCc := Lib.hid c
        clear HN1 HF1 c
        go_wp2_with (first | (go_at_call 23; (with_reducible refine (KL1.out _).mono ?_); rintro e _ ⟨rfl, v, rfl⟩) | fail)
        go_roundw
        case rel => exact ⟨k+1, v, by omega, by go_num, rfl, HF2⟩
        case measure => simp [intOf]; omega
    · have hr : r = decide (sz s = 3) := HY.out (fun i hi => hf.out i (by omega))
      clear hf HY HN
      have hb : ((sz s : Int) == 3) = decide (sz s = 3) := by
        by_cases c : sz s = 3
        · rw [c]; rfl
        · rw [decide_eq_false c, beq_eq_false_iff_ne]; omega
      subst hr
      have Hb := Lib.hid hb
      clear hb
      generalize decide (sz s = 3) = r at *
      generalize sz s = z at *
      rcases btf r with g | g
      · subst g
        have hz : z = 3 := by have := Hb.out; rw [beq_iff_eq] at this; omega
        subst hz
        go_wp2_with (first | (go_at_call 17; (with_reducible refine (KS.out _).mono ?_); rintro e _ ⟨rfl, v, rfl⟩) | fail)
        go_ret
        exact Ret.mk v rfl
      · subst g
        have hz := Hb.out
        go_wp2_with (first | (go_at_call 17; (with_reducible refine (KS.out _).mono ?_); rintro e _ ⟨rfl, v, rfl⟩) | fail)
        go_ret
        exact Ret.mk v rfl

end Go.Proofs.Ytdieaijgoidocaa

namespace Go.Proofs.Ytdieaijgoidocaa
open Go.RowKit
set_option linter.unusedVariables false

theorem without_new {B : Nat} {W : World} (y : Later B W) (k m : Nat) (hm : m ≤ 8) (hk : k ≤ m) (G : List Int) (hlen : G.length ≤ 1048576) (t : TypeId) :
    Calls Try.prog 31 #[.int .i64 k, .int .i64 m, .slice (some ⟨y.val.heap.size, 0, none⟩) G.length G.length] (y.val.alloc (.cells (G.map (Value.int .i64)).toArray t)) (RetP B W (MatO B m (sans k m G))) := by
  have hB := y.size
  refine (c_without (Later.self (y.val.alloc (.cells (G.map (Value.int .i64)).toArray t))) k m hm hk G _ G.length (ints_new y.val G t) hlen).mono ?_
  rintro e _ ⟨_, rfl, ⟨ad, cp, rfl, hO⟩, w2, rfl⟩
  exact ⟨_, rfl, ⟨ad, cp, rfl, hO.mono (by simp; omega)⟩, (y.alloc _).up w2, rfl⟩

def sFano : List UInt8 := [102, 97, 110, 111]
def sNonf : List UInt8 := [110, 111, 110, 102, 97, 110, 111]
def sK4 : List UInt8 := [107, 52]
def sVam : List UInt8 := [118, 97, 109, 111, 115]
def eK4 : List (Int × Int) := [(0, 1), (0, 2), (0, 3), (1, 2), (1, 3), (2, 3)]
/-- what Named answers -/
structure NamIs (t : ByteArray) (e n' : Int) (xs' : List Int) : Prop where
  fano : t.toList = sFano → e = 0 ∧ n' = 7 ∧ xs' = sans 3 7 [11, 22, 44, 88, 49, 98, 69]
  nonf : t.toList = sNonf → e = 0 ∧ n' = 7 ∧ xs' = sans 3 7 [11, 22, 44, 88, 49, 98]
  k4 : t.toList = sK4 → e = 0 ∧ n' = 6 ∧ xs' = ints (biggest (those 6 (forB 4 eK4)))
  vam : t.toList = sVam → e = 0 ∧ n' = 8 ∧ xs' = sans 4 8 [15, 51, 60, 195, 204]
  no : t.toList ≠ sFano → t.toList ≠ sNonf → t.toList ≠ sK4 → t.toList ≠ sVam → e = 6 ∧ n' = 0 ∧ xs' = []

def k4V : Array Value := #[.int .i64 0, .int .i64 1, .int .i64 0, .int .i64 2, .int .i64 0, .int .i64 3, .int .i64 1, .int .i64 2, .int .i64 1, .int .i64 3, .int .i64 2, .int .i64 3]
theorem edges_k4 (w : World) (t : TypeId) : EdgesAt (w.alloc (.cells k4V t)).heap.size (w.alloc (.cells k4V t)) (some ⟨w.heap.size, 0, none⟩) eK4 := by
  intro _
  refine ⟨w.heap.size, 0, rfl, by simp, fun k hk => ?_⟩
  have h : (w.alloc (.cells k4V t)).heap[w.heap.size]? = some (.cells k4V t (0, 0)) := heap_alloc_new w _
  rw [cell_of_row _ w.heap.size _ _ _ _ h, cell_of_row _ w.heap.size _ _ _ _ h]
  have : ∀ k : Fin 6, k4V[0 + k.val * 2]? = some (.int .i64 (eK4.getD k.val (0, 0)).1) ∧ k4V[0 + k.val * 2 + 1]? = some (.int .i64 (eK4.getD k.val (0, 0)).2) := by
    intro k
    match k with
    | 0 => exact ⟨rfl, rfl⟩
    | 1 => exact ⟨rfl, rfl⟩
    | 2 => exact ⟨rfl, rfl⟩
    | 3 => exact ⟨rfl, rfl⟩
    | 4 => exact ⟨rfl, rfl⟩
    | 5 => exact ⟨rfl, rfl⟩
  exact this ⟨k, hk⟩
theorem graph_k4 : isGraph ((4 : Nat) : Int) eK4 := by decide
theorem graphic_new {B : Nat} {W : World} (y : Later B W) (t : TypeId) :
    Calls Try.prog 32 #[.agg #[.int .i64 4, .slice (some ⟨y.val.heap.size, 0, none⟩) 6 6]] (y.val.alloc (.cells k4V t)) (RetP B W (MatTO B 6 (ints (biggest (those 6 (forB 4 eK4)))) 0)) := by
  have hB := y.size
  refine (c_kGraphic (Later.self (y.val.alloc (.cells k4V t))) 4 eK4 _ 6 0 6 (ints (biggest (those 6 (forB 4 eK4)))) (edges_k4 y.val t) (by decide) (by decide) (fun h => absurd rfl h) (fun _ => ⟨4, rfl, graph_k4, rfl, rfl⟩)).mono ?_
  rintro e _ ⟨_, rfl, ⟨ad, cp, rfl, hO⟩, w2, rfl⟩
  exact ⟨_, rfl, ⟨ad, cp, rfl, hO.mono (by simp; omega)⟩, (y.alloc _).up w2, rfl⟩

set_option maxRecDepth 100000 in
set_option maxHeartbeats 8000000 in
theorem c_kNamed {B : Nat} {W : World} (u : Later B W) (t : ByteArray) (e n' : Int) (xs' : List Int) (hN : NamIs t e n' xs') :
    Calls Try.prog 10 #[.string t] u.val (RetP B W (MatTO B n' xs' e)) := by
  have hB := u.size
  have X2 : RowL (u.val.alloc (.cells #[.int .i64 0, .slice none 0 0] 26)) u.val.heap.size 26 [.int .i64 0, .slice none 0 0] := RowL.new u.val 26 [.int .i64 0, .slice none 0 0]
  have hYs : (u.val.alloc (.cells #[.int .i64 0, .slice none 0 0] 26)).heap.size = u.val.heap.size + 1 := by simp
  have HVY : Hid (∀ v : Later (u.val.alloc (.cells #[.int .i64 0, .slice none 0 0] 26)).heap.size (u.val.alloc (.cells #[.int .i64 0, .slice none 0 0] 26)), ∃ w : Later B W, w.val = v.val) := Lib.hid (fun v => ⟨(u.alloc _).up v, rfl⟩)
  have HX := Lib.hid X2
  have HYs := Lib.hid hYs
  have HN := Lib.hid hN
  clear X2 hYs hN
  go_enter Try.func10, Try.ntmps10
  go_upto_region 1 with fail
  generalize (u.val.alloc (.cells #[.int .i64 0, .slice none 0 0] 26)) = Y at *
  generalize u.val.heap.size = gu at *
  have hgY : gu < Y.heap.size := by have := HYs.out; omega
  have f0 : ∀ (w : Later Y.heap.size Y), w.val.cell? ⟨gu, 0, none⟩ = some (.int .i64 0) := fun w => (HX.out.keep_at w.below hgY).cell rfl
  have z0 : ∀ (w : Later Y.heap.size Y), w.val.frozen? ⟨gu, 0, none⟩ = false := fun w => (HX.out.keep_at w.below hgY).fz 0
  have f1 : ∀ (w : Later Y.heap.size Y) (x0 : Value), (w.val.setCell ⟨gu, 0, none⟩ x0).cell? ⟨gu, 1, none⟩ = some (.slice none 0 0) := fun w x0 => ((HX.out.keep_at w.below hgY).set 0 x0).cell rfl
  have z1 : ∀ (w : Later Y.heap.size Y) (x0 : Value), (w.val.setCell ⟨gu, 0, none⟩ x0).frozen? ⟨gu, 1, none⟩ = false := fun w x0 => ((HX.out.keep_at w.below hgY).set 0 x0).fz 1
  have hfin : ∀ (v : Later Y.heap.size Y) (nn : Int) (ad : Option Addr) (cp : Nat) (xs : List Int) (ee : Int) (tm : Array Value), Own Y.heap.size v.val ad cp xs → tm.getD 2 undef = .pointer (some ⟨gu, 0, none⟩) → tm.getD 3 undef = .int .i64 ee → nn = n' → xs = xs' → ee = e → bodyPost Try.prog Try.f10 (RetP B W (MatTO B n' xs' e)) .ret { tmps := tm, defers := [] } ((v.val.setCell ⟨gu, 0, none⟩ (.int .i64 nn)).setCell ⟨gu, 1, none⟩ (.slice ad xs.length cp)) := fun v nn ad cp xs ee tm hO h4 h5 e1 e2 e3 => by
    subst e1 e2 e3
    refine bodyPost_ret (results_row (vs := [.int .i64 nn, .slice ad xs.length cp]) rfl _ _ gu h4 (((HX.out.keep v.below).set 0 _).set 1 _) Try.underlying26 (by kernel_rfl)) rfl ?_
    obtain ⟨x1, hx1⟩ := later_set (HVY.out v) (g := gu) (i := 0) (by omega) (.int .i64 nn)
    obtain ⟨x2, hx2⟩ := later_set ⟨x1, hx1⟩ (g := gu) (i := 1) (by omega) (.slice ad xs.length cp)
    exact RetP.of ⟨x2, hx2⟩ ⟨ad, cp, by rw [h5], ((hO.set hgY _).set hgY _).mono (by omega)⟩
  have HF := Lib.hid hfin
  clear hfin
  obtain ⟨z, hzz⟩ : ∃ z : Later Y.heap.size Y, z.val = Y := ⟨Later.self _, rfl⟩
  rw [← hzz]
  clear hzz
  by_cases c1 : t.toList = sFano
  · obtain ⟨h1, h2, h3⟩ := HN.out.fano c1
    have HH := Lib.hid (And.intro h2 (And.intro h3 h1))
    have KW : Hid (Calls Try.prog 31 #[.int .i64 3, .int .i64 7, .slice (some ⟨z.val.heap.size, 0, none⟩) 7 7] (z.val.alloc (.cells #[.int .i64 11, .int .i64 22, .int .i64 44, .int .i64 88, .int .i64 49, .int .i64 98, .int .i64 69] 3)) (RetP Y.heap.size Y (MatO Y.heap.size 7 (sans 3 7 [11, 22, 44, 88, 49, 98, 69])))) := Lib.hid (without_new z 3 7 (by decide) (by decide) [11, 22, 44, 88, 49, 98, 69] (by decide) _)
    generalize sans 3 7 [11, 22, 44, 88, 49, 98, 69] = A at *
    clear h1 h2 h3
    unfold sFano at c1
    have b1 := beq_iff_eq.2 c1
    clear c1
    go_wp2_with (first | (go_at_call 31; (with_reducible refine (KW.out).mono ?_); rintro e _ ⟨_, rfl, ⟨ad, cp, rfl, hO⟩, v2, rfl⟩) | fail)
    refine HF.out v2 _ ad cp A 0 _ hO ?_ ?_ HH.out.1.symm HH.out.2.1.symm HH.out.2.2.symm <;> rfl
  by_cases c2 : t.toList = sNonf
  · obtain ⟨h1, h2, h3⟩ := HN.out.nonf c2
    have HH := Lib.hid (And.intro h2 (And.intro h3 h1))
    have KW : Hid (Calls Try.prog 31 #[.int .i64 3, .int .i64 7, .slice (some ⟨z.val.heap.size, 0, none⟩) 6 6] (z.val.alloc (.cells #[.int .i64 11, .int .i64 22, .int .i64 44, .int .i64 88, .int .i64 49, .int .i64 98] 3)) (RetP Y.heap.size Y (MatO Y.heap.size 7 (sans 3 7 [11, 22, 44, 88, 49, 98])))) := Lib.hid (without_new z 3 7 (by decide) (by decide) [11, 22, 44, 88, 49, 98] (by decide) _)
    generalize sans 3 7 [11, 22, 44, 88, 49, 98] = A at *
    clear h1 h2 h3
    unfold sFano at c1
    unfold sNonf at c2
    have b1 := beq_eq_false_iff_ne.2 c1
    have b2 := beq_iff_eq.2 c2
    clear c1 c2
    go_wp2_with (first | (go_at_call 31; (with_reducible refine (KW.out).mono ?_); rintro e _ ⟨_, rfl, ⟨ad, cp, rfl, hO⟩, v2, rfl⟩) | fail)
    refine HF.out v2 _ ad cp A 0 _ hO ?_ ?_ HH.out.1.symm HH.out.2.1.symm HH.out.2.2.symm <;> rfl
  by_cases c3 : t.toList = sK4
  · obtain ⟨h1, h2, h3⟩ := HN.out.k4 c3
    have HH := Lib.hid (And.intro h2 (And.intro h3 h1))
    have KG : Hid (Calls Try.prog 32 #[.agg #[.int .i64 4, .slice (some ⟨z.val.heap.size, 0, none⟩) 6 6]] (z.val.alloc (.cells #[.int .i64 0, .int .i64 1, .int .i64 0, .int .i64 2, .int .i64 0, .int .i64 3, .int .i64 1, .int .i64 2, .int .i64 1, .int .i64 3, .int .i64 2, .int .i64 3] 45)) (RetP Y.heap.size Y (MatTO Y.heap.size 6 (ints (biggest (those 6 (forB 4 eK4)))) 0))) := Lib.hid (graphic_new z 45)
    generalize ints (biggest (those 6 (forB 4 eK4))) = A at *
    clear h1 h2 h3
    unfold sFano at c1
    unfold sNonf at c2
    unfold sK4 at c3
    have b1 := beq_eq_false_iff_ne.2 c1
    have b2 := beq_eq_false_iff_ne.2 c2
    have b3 := beq_iff_eq.2 c3
    clear c1 c2 c3
    go_wp2_with (first | (go_at_call 32; (with_reducible refine (KG.out).mono ?_); rintro e _ ⟨_, rfl, ⟨ad, cp, rfl, hO⟩, v2, rfl⟩) | fail)
    refine HF.out v2 _ ad cp A 0 _ hO ?_ ?_ HH.out.1.symm HH.out.2.1.symm HH.out.2.2.symm <;> rfl
  by_cases c4 : t.toList = sVam
  · obtain ⟨h1, h2, h3⟩ := HN.out.vam c4
    have HH := Lib.hid (And.intro h2 (And.intro h3 h1))
    have KW : Hid (Calls Try.prog 31 #[.int .i64 4, .int .i64 8, .slice (some ⟨z.val.heap.size, 0, none⟩) 5 5] (z.val.alloc (.cells #[.int .i64 15, .int .i64 51, .int .i64 60, .int .i64 195, .int .i64 204] 3)) (RetP Y.heap.size Y (MatO Y.heap.size 8 (sans 4 8 [15, 51, 60, 195, 204])))) := Lib.hid (without_new z 4 8 (by decide) (by decide) [15, 51, 60, 195, 204] (by decide) _)
    generalize sans 4 8 [15, 51, 60, 195, 204] = A at *
    clear h1 h2 h3
    unfold sFano at c1
    unfold sNonf at c2
    unfold sK4 at c3
    unfold sVam at c4
    have b1 := beq_eq_false_iff_ne.2 c1
    have b2 := beq_eq_false_iff_ne.2 c2
    have b3 := beq_eq_false_iff_ne.2 c3
    have b4 := beq_iff_eq.2 c4
    clear c1 c2 c3 c4
    go_wp2_with (first | (go_at_call 31; (with_reducible refine (KW.out).mono ?_); rintro e _ ⟨_, rfl, ⟨ad, cp, rfl, hO⟩, v2, rfl⟩) | fail)
    refine HF.out v2 _ ad cp A 0 _ hO ?_ ?_ HH.out.1.symm HH.out.2.1.symm HH.out.2.2.symm <;> rfl
  obtain ⟨h1, h2, h3⟩ := HN.out.no c1 c2 c3 c4
  have HH := Lib.hid (And.intro h2 (And.intro h3 h1))
  clear h1 h2 h3
  unfold sFano at c1
  unfold sNonf at c2
  unfold sK4 at c3
  unfold sVam at c4
  have b1 := beq_eq_false_iff_ne.2 c1
  have b2 := beq_eq_false_iff_ne.2 c2
  have b3 := beq_eq_false_iff_ne.2 c3
  have b4 := beq_eq_false_iff_ne.2 c4
  have HC := Lib.hid (And.intro c1 (And.intro c2 (And.intro c3 c4)))
  clear c1 c2 c3 c4 HC
  go_wp2
  refine HF.out z _ none 0 [] 6 _ (Own.nil _ _) ?_ ?_ HH.out.1.symm HH.out.2.1.symm HH.out.2.2.symm <;> rfl

end Go.Proofs.Ytdieaijgoidocaa

namespace Go.Proofs.Ytdieaijgoidocaa
open Go.RowKit
set_option linter.unusedVariables false

theorem rowAt1_store {w : World} {g : Nat} {t : TypeId} {v x : Value} (h : RowAt1 w g t v) : RowAt1 (w.setCell ⟨g, 0, none⟩ x) g t x := by
  have := heap_setCell_same w g 0 #[v] t x h
  simpa [RowAt1] using this
/-- a matroid and whether there is one -/
def MatTB (B : Nat) (n : Int) (xs : List Int) (b : Bool) (v : Value) (w : World) : Prop := ∃ ad cp, v = .tuple #[.agg #[.int .i64 n, .slice ad xs.length cp], .bool b] ∧ Own B w ad cp xs
/-- what the reference answers -/
structure NamR (t : ByteArray) (ok : Bool) (n' : Int) (xs' : List Int) : Prop where
  fano : t.toList = sFano → ok = true ∧ n' = 7 ∧ xs' = ints (those 7 (fanB 7))
  nonf : t.toList = sNonf → ok = true ∧ n' = 7 ∧ xs' = ints (those 7 (fanB 6))
  k4 : t.toList = sK4 → ok = true ∧ n' = 6 ∧ xs' = ints (those 6 (ofRank 6 (fun s => ((4 : Nat) : Int) - (rz 4 eK4 s : Int))))
  vam : t.toList = sVam → ok = true ∧ n' = 8 ∧ xs' = ints (those 8 vamB)
  no : t.toList ≠ sFano → t.toList ≠ sNonf → t.toList ≠ sK4 → t.toList ≠ sVam → ok = false ∧ n' = 0 ∧ xs' = []
theorem refGraphic_new {B : Nat} {W : World} (y : Later B W) (t : TypeId) :
    Calls Try.prog 21 #[.agg #[.int .i64 4, .slice (some ⟨y.val.heap.size, 0, none⟩) 6 6]] (y.val.alloc (.cells k4V t)) (RetP B W (MatO B 6 (ints (those 6 (ofRank 6 (fun s => ((4 : Nat) : Int) - (rz 4 eK4 s : Int))))))) := by
  have hB := y.size
  refine (c_refGraphic (Later.self (y.val.alloc (.cells k4V t))) 4 eK4 _ 6 (edges_k4 y.val t) graph_k4).mono ?_
  rintro e _ ⟨_, rfl, ⟨ad, cp, rfl, hO⟩, w2, rfl⟩
  exact ⟨_, rfl, ⟨ad, cp, rfl, hO.mono (by simp; omega)⟩, (y.alloc _).up w2, rfl⟩

set_option maxRecDepth 100000 in
set_option maxHeartbeats 8000000 in
theorem c_refNamed {B : Nat} {W : World} (u : Later B W) (t : ByteArray) (ok : Bool) (n' : Int) (xs' : List Int) (hN : NamR t ok n' xs') :
    Calls Try.prog 7 #[.string t] u.val (RetP B W (MatTB B n' xs' ok)) := by
  have hB := u.size
  have k1 : (u.val.alloc (.cells #[.int .i64 0, .slice none 0 0] 26)).heap.size = u.val.heap.size + 1 := by simp
  have X2 : RowL ((u.val.alloc (.cells #[.int .i64 0, .slice none 0 0] 26)).alloc (.cells #[.int .i64 0] 3)) u.val.heap.size 26 [.int .i64 0, .slice none 0 0] := (RowL.new u.val 26 [.int .i64 0, .slice none 0 0]).keep ((Below.refl _ _).alloc (Nat.le_refl _) _)
  have X1 : RowAt1 ((u.val.alloc (.cells #[.int .i64 0, .slice none 0 0] 26)).alloc (.cells #[.int .i64 0] 3)) (u.val.heap.size + 1) 3 (.int .i64 0) := by
    have h := RowAt1.new (u.val.alloc (.cells #[.int .i64 0, .slice none 0 0] 26)) 3 (.int .i64 0)
    rwa [k1] at h
  have hYs : ((u.val.alloc (.cells #[.int .i64 0, .slice none 0 0] 26)).alloc (.cells #[.int .i64 0] 3)).heap.size = u.val.heap.size + 2 := by simp
  have HVg : Hid (∃ y : Later u.val.heap.size u.val, y.val = ((u.val.alloc (.cells #[.int .i64 0, .slice none 0 0] 26)).alloc (.cells #[.int .i64 0] 3))) := Lib.hid ⟨((Later.self u.val).alloc _).alloc _, rfl⟩
  have HU : Hid (∀ v : Later u.val.heap.size u.val, ∃ w : Later B W, w.val = v.val) := Lib.hid (fun v => ⟨u.up v, rfl⟩)
  have HX := Lib.hid X2
  have HX1 := Lib.hid X1
  have HYs := Lib.hid hYs
  have HN := Lib.hid hN
  clear X2 X1 hYs hN k1
  go_enter Try.func7, Try.ntmps7
  go_upto_region 2 with fail
  generalize ((u.val.alloc (.cells #[.int .i64 0, .slice none 0 0] 26)).alloc (.cells #[.int .i64 0] 3)) = Y at *
  generalize u.val.heap.size = gu at *
  generalize u.val = U at *
  have hfin : ∀ (Z : World) (v : Later Z.heap.size Z) (nn : Int) (ad : Option Addr) (cp : Nat) (xs : List Int) (bb : Bool) (tm : Array Value), (∃ y : Later gu U, y.val = Z) → RowL Z gu 26 [.int .i64 0, .slice none 0 0] → gu + 2 = Z.heap.size → Own Z.heap.size v.val ad cp xs → tm.getD 2 undef = .pointer (some ⟨gu, 0, none⟩) → tm.getD 3 undef = .bool bb → nn = n' → xs = xs' → bb = ok → bodyPost Try.prog Try.f7 (RetP B W (MatTB B n' xs' ok)) .ret { tmps := tm, defers := [] } ((v.val.setCell ⟨gu, 0, none⟩ (.int .i64 nn)).setCell ⟨gu, 1, none⟩ (.slice ad xs.length cp)) := fun Z v nn ad cp xs bb tm hz hR hs hO h4 h5 e1 e2 e3 => by
    subst e1 e2 e3
    refine bodyPost_ret (results_row (vs := [.int .i64 nn, .slice ad xs.length cp]) rfl _ _ gu h4 (((hR.keep v.below).set 0 _).set 1 _) Try.underlying26 (by kernel_rfl)) rfl ?_
    obtain ⟨y, rfl⟩ := hz
    obtain ⟨x0, hx0⟩ := HU.out (y.up v)
    obtain ⟨x1, hx1⟩ := later_set ⟨x0, hx0⟩ (g := gu) (i := 0) (by omega) (.int .i64 nn)
    obtain ⟨x2, hx2⟩ := later_set ⟨x1, hx1⟩ (g := gu) (i := 1) (by omega) (.slice ad xs.length cp)
    have hgy : gu < y.val.heap.size := by omega
    exact RetP.of ⟨x2, hx2⟩ ⟨ad, cp, by rw [h5], ((hO.set hgy _).set hgy _).mono (by omega)⟩
  have HF := Lib.hid hfin
  clear hfin
  by_cases c1 : t.toList = sFano
  · obtain ⟨h1, h2, h3⟩ := HN.out.fano c1
    have HH := Lib.hid (And.intro h2 (And.intro h3 h1))
    clear h1 h2 h3
    unfold sFano at c1
    have b1 := beq_iff_eq.2 c1
    clear c1
    have x1 := HX1.out.c0
    have x2 : Y.frozen? ⟨gu + 1, 0, none⟩ = false := frozen_of_row Y (gu + 1) 0 _ _ HX1.out
    go_upto_region 12 with fail
    have HXz : Hid (RowAt1 (Y.setCell ⟨gu + 1, 0, none⟩ (.int .i64 7)) (gu + 1) 3 (.int .i64 7)) := Lib.hid (rowAt1_store HX1.out)
    have HRz : Hid (RowL (Y.setCell ⟨gu + 1, 0, none⟩ (.int .i64 7)) gu 26 [.int .i64 0, .slice none 0 0]) := Lib.hid ((Below.heap_setCell _ _ _ _ (show gu ≠ gu + 1 by omega)).trans HX.out)
    have hzs : gu + 2 = (Y.setCell ⟨gu + 1, 0, none⟩ (.int .i64 7)).heap.size := by
      have e : (Y.setCell ⟨gu + 1, 0, none⟩ (.int .i64 7)).heap.size = Y.heap.size := by simp [World.setCell]
      rw [e]; exact HYs.out.symm
    have HZg : Hid (∃ y : Later gu U, y.val = Y.setCell ⟨gu + 1, 0, none⟩ (.int .i64 7)) := Lib.hid (by
      obtain ⟨y, hy⟩ := HVg.out
      exact ⟨y.set ⟨gu + 1, 0, none⟩ (by show gu ≤ gu + 1; omega) _, by rw [← hy]; rfl⟩)
    generalize Y.setCell ⟨gu + 1, 0, none⟩ (.int .i64 7) = Z at *
    have hgZ : gu < Z.heap.size := by omega
    have f0 : ∀ (w : Later Z.heap.size Z), w.val.cell? ⟨gu, 0, none⟩ = some (.int .i64 0) := fun w => (HRz.out.keep_at w.below hgZ).cell rfl
    have z0 : ∀ (w : Later Z.heap.size Z), w.val.frozen? ⟨gu, 0, none⟩ = false := fun w => (HRz.out.keep_at w.below hgZ).fz 0
    have f1 : ∀ (w : Later Z.heap.size Z) (x0 : Value), (w.val.setCell ⟨gu, 0, none⟩ x0).cell? ⟨gu, 1, none⟩ = some (.slice none 0 0) := fun w x0 => ((HRz.out.keep_at w.below hgZ).set 0 x0).cell rfl
    have z1 : ∀ (w : Later Z.heap.size Z) (x0 : Value), (w.val.setCell ⟨gu, 0, none⟩ x0).frozen? ⟨gu, 1, none⟩ = false := fun w x0 => ((HRz.out.keep_at w.below hgZ).set 0 x0).fz 1
    have KT : Hid (∀ x : Later Z.heap.size Z, Calls Try.prog 14 #[.int .i64 7, .func (.func 24) #[] #[.pointer (some ⟨gu + 1, 0, none⟩)]] x.val (RetOwn Z.heap.size Z (ints (those 7 (fanB 7))))) := Lib.hid (fun x => c_those_own x 7 (by decide) 24 _ (fanB 7) (fun args w => by kernel_rfl) (fun x v s hs => by
      have hxz := x.size
      exact c_fanTell v 7 s (gu + 1) (by decide) (by omega) (by rw [x.cell (a := ⟨gu + 1, 0, none⟩) (show gu + 1 < Z.heap.size by omega)]; exact HXz.out.c0) (by have : bit 7 = 128 := rfl; omega)))
    generalize ints (those 7 (fanB 7)) = A at *
    obtain ⟨z, hzz⟩ : ∃ z : Later Z.heap.size Z, z.val = Z := ⟨Later.self _, rfl⟩
    rw [← hzz]
    clear hzz x1 x2
    go_wp2_with (first | (go_at_call 14; (with_reducible refine (KT.out _).mono ?_); rintro e _ ⟨_, rfl, ⟨ad, cp, rfl, hO⟩, v2, rfl⟩) | fail)
    refine HF.out Z v2 _ ad cp A true _ HZg.out HRz.out hzs hO ?_ ?_ HH.out.1.symm HH.out.2.1.symm HH.out.2.2.symm <;> rfl
  by_cases c2 : t.toList = sNonf
  · obtain ⟨h1, h2, h3⟩ := HN.out.nonf c2
    have HH := Lib.hid (And.intro h2 (And.intro h3 h1))
    clear h1 h2 h3
    unfold sFano at c1
    unfold sNonf at c2
    have b1 := beq_eq_false_iff_ne.2 c1
    have b2 := beq_iff_eq.2 c2
    clear c1 c2
    have x1 := HX1.out.c0
    have x2 : Y.frozen? ⟨gu + 1, 0, none⟩ = false := frozen_of_row Y (gu + 1) 0 _ _ HX1.out
    go_upto_region 12 with fail
    have HXz : Hid (RowAt1 (Y.setCell ⟨gu + 1, 0, none⟩ (.int .i64 6)) (gu + 1) 3 (.int .i64 6)) := Lib.hid (rowAt1_store HX1.out)
    have HRz : Hid (RowL (Y.setCell ⟨gu + 1, 0, none⟩ (.int .i64 6)) gu 26 [.int .i64 0, .slice none 0 0]) := Lib.hid ((Below.heap_setCell _ _ _ _ (show gu ≠ gu + 1 by omega)).trans HX.out)
    have hzs : gu + 2 = (Y.setCell ⟨gu + 1, 0, none⟩ (.int .i64 6)).heap.size := by
      have e : (Y.setCell ⟨gu + 1, 0, none⟩ (.int .i64 6)).heap.size = Y.heap.size := by simp [World.setCell]
      rw [e]; exact HYs.out.symm
    have HZg : Hid (∃ y : Later gu U, y.val = Y.setCell ⟨gu + 1, 0, none⟩ (.int .i64 6)) := Lib.hid (by
      obtain ⟨y, hy⟩ := HVg.out
      exact ⟨y.set ⟨gu + 1, 0, none⟩ (by show gu ≤ gu + 1; omega) _, by rw [← hy]; rfl⟩)
    generalize Y.setCell ⟨gu + 1, 0, none⟩ (.int .i64 6) = Z at *
    have hgZ : gu < Z.heap.size := by omega
    have f0 : ∀ (w : Later Z.heap.size Z), w.val.cell? ⟨gu, 0, none⟩ = some (.int .i64 0) := fun w => (HRz.out.keep_at w.below hgZ).cell rfl
    have z0 : ∀ (w : Later Z.heap.size Z), w.val.frozen? ⟨gu, 0, none⟩ = false := fun w => (HRz.out.keep_at w.below hgZ).fz 0
    have f1 : ∀ (w : Later Z.heap.size Z) (x0 : Value), (w.val.setCell ⟨gu, 0, none⟩ x0).cell? ⟨gu, 1, none⟩ = some (.slice none 0 0) := fun w x0 => ((HRz.out.keep_at w.below hgZ).set 0 x0).cell rfl
    have z1 : ∀ (w : Later Z.heap.size Z) (x0 : Value), (w.val.setCell ⟨gu, 0, none⟩ x0).frozen? ⟨gu, 1, none⟩ = false := fun w x0 => ((HRz.out.keep_at w.below hgZ).set 0 x0).fz 1
    have KT : Hid (∀ x : Later Z.heap.size Z, Calls Try.prog 14 #[.int .i64 7, .func (.func 24) #[] #[.pointer (some ⟨gu + 1, 0, none⟩)]] x.val (RetOwn Z.heap.size Z (ints (those 7 (fanB 6))))) := Lib.hid (fun x => c_those_own x 7 (by decide) 24 _ (fanB 6) (fun args w => by kernel_rfl) (fun x v s hs => by
      have hxz := x.size
      exact c_fanTell v 6 s (gu + 1) (by decide) (by omega) (by rw [x.cell (a := ⟨gu + 1, 0, none⟩) (show gu + 1 < Z.heap.size by omega)]; exact HXz.out.c0) (by have : bit 7 = 128 := rfl; omega)))
    generalize ints (those 7 (fanB 6)) = A at *
    obtain ⟨z, hzz⟩ : ∃ z : Later Z.heap.size Z, z.val = Z := ⟨Later.self _, rfl⟩
    rw [← hzz]
    clear hzz x1 x2
    go_wp2_with (first | (go_at_call 14; (with_reducible refine (KT.out _).mono ?_); rintro e _ ⟨_, rfl, ⟨ad, cp, rfl, hO⟩, v2, rfl⟩) | fail)
    refine HF.out Z v2 _ ad cp A true _ HZg.out HRz.out hzs hO ?_ ?_ HH.out.1.symm HH.out.2.1.symm HH.out.2.2.symm <;> rfl
  have hgY : gu < Y.heap.size := by have := HYs.out; omega
  have f0 : ∀ (w : Later Y.heap.size Y), w.val.cell? ⟨gu, 0, none⟩ = some (.int .i64 0) := fun w => (HX.out.keep_at w.below hgY).cell rfl
  have z0 : ∀ (w : Later Y.heap.size Y), w.val.frozen? ⟨gu, 0, none⟩ = false := fun w => (HX.out.keep_at w.below hgY).fz 0
  have f1 : ∀ (w : Later Y.heap.size Y) (x0 : Value), (w.val.setCell ⟨gu, 0, none⟩ x0).cell? ⟨gu, 1, none⟩ = some (.slice none 0 0) := fun w x0 => ((HX.out.keep_at w.below hgY).set 0 x0).cell rfl
  have z1 : ∀ (w : Later Y.heap.size Y) (x0 : Value), (w.val.setCell ⟨gu, 0, none⟩ x0).frozen? ⟨gu, 1, none⟩ = false := fun w x0 => ((HX.out.keep_at w.below hgY).set 0 x0).fz 1
  obtain ⟨z, hzz⟩ : ∃ z : Later Y.heap.size Y, z.val = Y := ⟨Later.self _, rfl⟩
  rw [← hzz]
  clear hzz
  by_cases c3 : t.toList = sK4
  · obtain ⟨h1, h2, h3⟩ := HN.out.k4 c3
    have HH := Lib.hid (And.intro h2 (And.intro h3 h1))
    clear h1 h2 h3
    unfold sFano at c1
    unfold sNonf at c2
    unfold sK4 at c3
    have b1 := beq_eq_false_iff_ne.2 c1
    have b2 := beq_eq_false_iff_ne.2 c2
    have b3 := beq_iff_eq.2 c3
    clear c1 c2 c3
    have KG : Hid (Calls Try.prog 21 #[.agg #[.int .i64 4, .slice (some ⟨z.val.heap.size, 0, none⟩) 6 6]] (z.val.alloc (.cells #[.int .i64 0, .int .i64 1, .int .i64 0, .int .i64 2, .int .i64 0, .int .i64 3, .int .i64 1, .int .i64 2, .int .i64 1, .int .i64 3, .int .i64 2, .int .i64 3] 45)) (RetP Y.heap.size Y (MatO Y.heap.size 6 (ints (those 6 (ofRank 6 (fun s => ((4 : Nat) : Int) - (rz 4 eK4 s : Int)))))))) := Lib.hid (refGraphic_new z 45)
    generalize ints (those 6 (ofRank 6 (fun s => ((4 : Nat) : Int) - (rz 4 eK4 s : Int)))) = A at *
    go_wp2_with (first | (go_at_call 21; (with_reducible refine (KG.out).mono ?_); rintro e _ ⟨_, rfl, ⟨ad, cp, rfl, hO⟩, v2, rfl⟩) | fail)
    refine HF.out Y v2 _ ad cp A true _ HVg.out HX.out HYs.out.symm hO ?_ ?_ HH.out.1.symm HH.out.2.1.symm HH.out.2.2.symm <;> rfl
  by_cases c4 : t.toList = sVam
  · obtain ⟨h1, h2, h3⟩ := HN.out.vam c4
    have HH := Lib.hid (And.intro h2 (And.intro h3 h1))
    clear h1 h2 h3
    unfold sFano at c1
    unfold sNonf at c2
    unfold sK4 at c3
    unfold sVam at c4
    have b1 := beq_eq_false_iff_ne.2 c1
    have b2 := beq_eq_false_iff_ne.2 c2
    have b3 := beq_eq_false_iff_ne.2 c3
    have b4 := beq_iff_eq.2 c4
    clear c1 c2 c3 c4
    have KT : Hid (∀ x : Later Y.heap.size Y, Calls Try.prog 14 #[.int .i64 8, .func (.func 22) #[] #[]] x.val (RetOwn Y.heap.size Y (ints (those 8 vamB)))) := Lib.hid (fun x => c_those_own x 8 (by decide) 22 _ vamB (fun args w => by kernel_rfl) (fun x v s hs => c_vamTell v s (by have : bit 8 = 256 := rfl; omega)))
    generalize ints (those 8 vamB) = A at *
    go_wp2_with (first | (go_at_call 14; (with_reducible refine (KT.out _).mono ?_); rintro e _ ⟨_, rfl, ⟨ad, cp, rfl, hO⟩, v2, rfl⟩) | fail)
    refine HF.out Y v2 _ ad cp A true _ HVg.out HX.out HYs.out.symm hO ?_ ?_ HH.out.1.symm HH.out.2.1.symm HH.out.2.2.symm <;> rfl
  obtain ⟨h1, h2, h3⟩ := HN.out.no c1 c2 c3 c4
  have HH := Lib.hid (And.intro h2 (And.intro h3 h1))
  clear h1 h2 h3
  unfold sFano at c1
  unfold sNonf at c2
  unfold sK4 at c3
  unfold sVam at c4
  have b1 := beq_eq_false_iff_ne.2 c1
  have b2 := beq_eq_false_iff_ne.2 c2
  have b3 := beq_eq_false_iff_ne.2 c3
  have b4 := beq_eq_false_iff_ne.2 c4
  clear c1 c2 c3 c4
  go_wp2
  refine HF.out Y z _ none 0 [] false _ HVg.out HX.out HYs.out.symm (Own.nil _ _) ?_ ?_ HH.out.1.symm HH.out.2.1.symm HH.out.2.2.symm <;> rfl

end Go.Proofs.Ytdieaijgoidocaa
