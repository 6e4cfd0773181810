
/-
  rotaref.Free, rotaref.Least: their function values.
  rotaref.Free, rotaref.Least.
  rotaref.Circuits.
-/
import Derived.Test.YtdcdhdlklppalaaPk09
import Derived.Test.YtdcdhdlklppalaaPk06
import Derived.Deep.RegionHeld3
namespace Go.Proofs.Ytdcdhdlklppalaa
open Go.RowKit
set_option linter.unusedVariables false

/-- within a basis -/
def freeB (L : List Nat) (s : Nat) : Bool := L.any (fun b => decide (s ||| b = b))
theorem freeB_iff {L : List Nat} {s : Nat} : freeB L s = true ↔ Ind L s := by
  unfold freeB Ind
  rw [List.any_eq_true]
  constructor
  · rintro ⟨b, hb, h⟩
    exact ⟨b, hb, or_eq_iff.1 (by simpa using h)⟩
  · rintro ⟨b, hb, h⟩
    exact ⟨b, hb, by simpa using or_eq_iff.2 h⟩
theorem any_getD {L : List Nat} {p : Nat → Bool} : L.any p = true ↔ ∃ i, i < L.length ∧ p (L.getD i 0) = true := by
  rw [List.any_eq_true]
  constructor
  · rintro ⟨x, hx, h⟩
    obtain ⟨i, hi, e⟩ := List.getElem_of_mem hx
    exact ⟨i, hi, by rw [show L.getD i 0 = x by simp [hi, e]]; exact h⟩
  · rintro ⟨i, hi, h⟩
    exact ⟨L.getD i 0, by simp [hi], h⟩

set_option maxRecDepth 100000 in
set_option maxHeartbeats 4000000 in
theorem c_freeTell {B : Nat} {W : World} (u : Later B W) (L : List Nat) (h256 : ∀ b, b ∈ L → b < 256) (hlen : L.length ≤ 4611686018427387904) (cap g : Nat) (a : Option Addr) (s : Nat) (hs : s < 256) (h : IntsAt B W a (ints L)) (hg : g < B) (hbox : W.cell? ⟨g, 1, none⟩ = some (.slice a (ints L).length cap)) :
    Calls Try.prog 89 #[.int .i64 s, .pointer (some ⟨g, 0, none⟩)] u.val (Ret B W (.bool (freeB L s))) := by
  have q1 : ∀ u : Later B W, u.val.cell? ⟨g, 1, none⟩ = some (.slice a L.length cap) := fun u => by rw [u.cell hg, hbox, ints_len]
  have HI := Lib.hid h
  have HF : Hid (freeB L s = true ↔ ∃ i, i < L.length ∧ decide (s ||| L.getD i 0 = L.getD i 0) = true) := Lib.hid any_getD
  have H8 : Hid (∀ i, i < L.length → L.getD i 0 < 256) := Lib.hid (fun i hi => h256 _ (by simp [hi]))
  clear h hbox h256
  generalize freeB L s = r at *
  go_enter Try.func89, Try.ntmps89
  go_wp2
  go_loopw [4] (fun i wr => ∃ (k : Nat) (v : Later B W), k ≤ L.length ∧ i = .int .i64 k ∧ wr = v.val ∧ Hid (∀ i, i < k → ¬ s ||| L.getD i 0 = L.getD i 0)) (fun i _ => L.length - (intOf i).toNat)
  case atStart => exact ⟨0, u, by omega, rfl, rfl, Lib.hid (fun i hi => by omega)⟩
  case round =>
    obtain ⟨k, v, hk, rfl, rfl, hf⟩ := hrel
    by_cases hlt : k < L.length
    · obtain ⟨b, off, rfl, hbB, hcell⟩ := HI.out.at (k := k) (by rw [ints_len]; exact hlt)
      have c0 : ∀ v : Later B W, v.val.cell? ⟨b, off + k, none⟩ = some (.int .i64 ((L.getD k 0 : Nat) : Int)) := fun v => by rw [← ints_getD]; exact hcell v k (by rw [ints_len]; exact hlt)
      have h8 := H8.out k hlt
      have KW := Lib.hid (fun v : Later B W => c_within v s (L.getD k 0) (by omega) (by omega))
      have HX : Hid (s ||| L.getD k 0 = L.getD k 0 → r = true) := Lib.hid (fun h => HF.out.2 ⟨k, hlt, by simpa using h⟩)
      have HY : Hid (¬ s ||| L.getD k 0 = L.getD k 0 → ∀ i, i < k + 1 → ¬ s ||| L.getD i 0 = L.getD i 0) := Lib.hid (fun h i hi => by
        by_cases c : i = k
        · subst c; exact h
        · exact hf.out i (by omega))
      clear hcell hf
      generalize L.getD k 0 = x at *
      by_cases hw : s ||| x = x
      · have K1 := Lib.hid (fun v => dcall_t (KW.out v) hw)
        have hr := HX.out hw
        subst hr
        clear hw KW HX HY
        go_wp2_with (first | (go_at_call 90; refine (K1.out _).mono ?_; rintro e _ ⟨rfl, v2, rfl⟩))
        go_ret
        exact Ret.mk v2 rfl
      · have K1 := Lib.hid (fun v => dcall_f (KW.out v) hw)
        have HN := Lib.hid (HY.out hw)
        clear hw KW HX HY
        go_wp2_with (first | (go_at_call 90; refine (K1.out _).mono ?_; rintro e _ ⟨rfl, v2, rfl⟩))
        go_roundw
        case rel => exact ⟨k+1, v2, by omega, by go_num, rfl, HN⟩
        case measure => simp [intOf]; omega
    · have hr : r = false := by
        cases h : r with
        | false => rfl
        | true =>
          obtain ⟨i, hi, h2⟩ := HF.out.1 h
          exact absurd (by simpa using h2) (hf.out i (by omega))
      subst hr
      go_wp2
      go_ret
      exact Ret.mk v rfl

/-- of a family's sets: one within which no other one lies -/
def leastB (M : List Nat) (s : Nat) : Bool := decide (s ∈ M) && M.all (fun x => decide (x = s) || !decide (x ||| s = s))
theorem all_getD {L : List Nat} {p : Nat → Bool} : L.all p = true ↔ ∀ i, i < L.length → p (L.getD i 0) = true := by
  rw [List.all_eq_true]
  constructor
  · intro h i hi; exact h _ (by simp [hi])
  · intro h x hx
    obtain ⟨i, hi, e⟩ := List.getElem_of_mem hx
    have := h i hi
    rwa [show L.getD i 0 = x by simp [hi, e]] at this

set_option maxRecDepth 100000 in
set_option maxHeartbeats 4000000 in
theorem c_leastTell {B : Nat} {W : World} (u : Later B W) (L : List Nat) (h256 : ∀ b, b ∈ L → b < 256) (hlen : L.length ≤ 4611686018427387904) (cap g : Nat) (a : Option Addr) (s : Nat) (hs : s < 256) (h : IntsAt B W a (ints L)) (hg : g < B) (hbox : W.cell? ⟨g, 0, none⟩ = some (.slice a (ints L).length cap)) :
    Calls Try.prog 91 #[.int .i64 s, .pointer (some ⟨g, 0, none⟩)] u.val (Ret B W (.bool (leastB L s))) := by
  have q1 : ∀ u : Later B W, u.val.cell? ⟨g, 0, none⟩ = some (.slice a L.length cap) := fun u => by rw [u.cell hg, hbox, ints_len]
  have HI := Lib.hid h
  have KH : Hid (∀ v : Later B W, Calls Try.prog 79 #[.slice a L.length cap, .int .i64 s] v.val (Ret B W (.bool (decide (s ∈ L))))) := Lib.hid (fun v => by
    have := c_has v (ints L) (s : Int) a cap h (by rw [ints_len]; omega)
    rw [ints_len] at this
    rwa [show decide ((s : Int) ∈ ints L) = decide (s ∈ L) by simp only [mem_ints]] at this)
  have H8 : Hid (∀ i, i < L.length → L.getD i 0 < 256) := Lib.hid (fun i hi => h256 _ (by simp [hi]))
  by_cases hm : s ∈ L
  case neg =>
    have K1 := Lib.hid (fun v => dcall_f (KH.out v) hm)
    have hr : leastB L s = false := by unfold leastB; simp [hm]
    rw [hr]
    clear h hbox h256 hm hr KH
    go_enter Try.func91, Try.ntmps91
    go_wp2_with (first | (go_at_call 79; refine (K1.out _).mono ?_; rintro e _ ⟨rfl, v2, rfl⟩))
    go_ret
    exact Ret.mk v2 rfl
  have K1 := Lib.hid (fun v => dcall_t (KH.out v) hm)
  have HF : Hid (leastB L s = true ↔ ∀ i, i < L.length → L.getD i 0 = s ∨ ¬ L.getD i 0 ||| s = s) := Lib.hid (by
    unfold leastB
    rw [show decide (s ∈ L) = true by simp [hm], Bool.true_and, all_getD]
    constructor <;> intro h i hi <;> have := h i hi <;> simpa using this)
  clear h hbox h256 hm KH
  generalize leastB L s = r at *
  go_enter Try.func91, Try.ntmps91
  go_wp2_with (first | (go_at_call 79; refine (K1.out _).mono ?_; rintro e _ ⟨rfl, v1, rfl⟩))
  clear K1
  go_loopw [4] (fun i wr => ∃ (k : Nat) (v : Later B W), k ≤ L.length ∧ i = .int .i64 k ∧ wr = v.val ∧ Hid (∀ i, i < k → L.getD i 0 = s ∨ ¬ L.getD i 0 ||| s = s)) (fun i _ => L.length - (intOf i).toNat)
  case atStart => exact ⟨0, v1, by omega, rfl, rfl, Lib.hid (fun i hi => by omega)⟩
  case round =>
    clear v1
    obtain ⟨k, v, hk, rfl, rfl, hf⟩ := hrel
    by_cases hlt : k < L.length
    · obtain ⟨b, off, rfl, hbB, hcell⟩ := HI.out.at (k := k) (by rw [ints_len]; exact hlt)
      have c0 : ∀ v : Later B W, v.val.cell? ⟨b, off + k, none⟩ = some (.int .i64 ((L.getD k 0 : Nat) : Int)) := fun v => by rw [← ints_getD]; exact hcell v k (by rw [ints_len]; exact hlt)
      have h8 := H8.out k hlt
      have KW := Lib.hid (fun v : Later B W => c_within v (L.getD k 0) s (by omega) (by omega))
      have HX : Hid (L.getD k 0 ≠ s → L.getD k 0 ||| s = s → r = false) := Lib.hid (fun h1 h2 => by
        cases h : r with
        | false => rfl
        | true => rcases HF.out.1 h k hlt with h3 | h3
                  · exact absurd h3 h1
                  · exact absurd h2 h3)
      have HY : Hid ((L.getD k 0 = s ∨ ¬ L.getD k 0 ||| s = s) → ∀ i, i < k + 1 → L.getD i 0 = s ∨ ¬ L.getD i 0 ||| s = s) := Lib.hid (fun h i hi => by
        by_cases c : i = k
        · subst c; exact h
        · exact hf.out i (by omega))
      clear hcell hf
      generalize L.getD k 0 = x at *
      by_cases he : x = s
      · have HN := Lib.hid (HY.out (.inl he))
        have d1 : ((x : Int) != (s : Int)) = false := by rw [he]; simp
        have d2 : (x != s) = false := by rw [he]; simp
        clear he HX HY KW
        go_wp2
        go_roundw
        case rel => exact ⟨k+1, v, by omega, by go_num, rfl, HN⟩
        case measure => simp [intOf]; omega
      · have d1 : ((x : Int) != (s : Int)) = true := by rw [bne_iff_ne]; omega
        have d2 : (x != s) = true := by rw [bne_iff_ne]; exact he
        by_cases hw : x ||| s = s
        · have K1 := Lib.hid (fun v => dcall_t (KW.out v) hw)
          have hr := HX.out he hw
          subst hr
          clear hw KW HX HY he
          go_wp2_with (first | (go_at_call 90; refine (K1.out _).mono ?_; rintro e _ ⟨rfl, v2, rfl⟩))
          go_ret
          exact Ret.mk v2 rfl
        · have K1 := Lib.hid (fun v => dcall_f (KW.out v) hw)
          have HN := Lib.hid (HY.out (.inr hw))
          clear hw KW HX HY he
          go_wp2_with (first | (go_at_call 90; refine (K1.out _).mono ?_; rintro e _ ⟨rfl, v2, rfl⟩))
          go_roundw
          case rel => exact ⟨k+1, v2, by omega, by go_num, rfl, HN⟩
          case measure => simp [intOf]; omega
    · have hr : r = true := HF.out.2 (fun i hi => hf.out i (by omega))
      subst hr
      go_wp2
      go_ret
      exact Ret.mk v rfl

end Go.Proofs.Ytdcdhdlklppalaa

namespace Go.Proofs.Ytdcdhdlklppalaa
open Go.RowKit
set_option linter.unusedVariables false

set_option maxRecDepth 100000 in
set_option maxHeartbeats 4000000 in
theorem c_freeO {B : Nat} {W : World} (u : Later B W) (m : Nat) (hm : m ≤ 8) (L : List Nat) (h256 : ∀ b, b ∈ L → b < 256) (hlen : L.length ≤ 4611686018427387904) (a : Option Addr) (cap : Nat) (h : IntsAt B W a (ints L)) :
    Calls Try.prog 76 #[.agg #[.int .i64 m, .slice a (ints L).length cap]] u.val (RetOwn B W (ints (those m (freeB L)))) := by
  have hb := bit_le m hm
  have T0 : Hid (Two (u.val.alloc (.cells #[.int .i64 m, .slice a (ints L).length cap] 24)) u.val.heap.size 24 (.int .i64 m) (.slice a (ints L).length cap)) := Lib.hid (Two.new _ _ _ _)
  have hI : IntsAt (u.val.alloc (.cells #[.int .i64 m, .slice a (ints L).length cap] 24)).heap.size (u.val.alloc (.cells #[.int .i64 m, .slice a (ints L).length cap] 24)) a (ints L) := h.to (u.alloc _)
  have hr : u.val.heap.size < (u.val.alloc (.cells #[.int .i64 m, .slice a (ints L).length cap] 24)).heap.size := by simp
  have K : Hid (Calls Try.prog 26 #[.int .i64 m, .func (.func 89) #[] #[.pointer (some ⟨u.val.heap.size, 0, none⟩)]] (u.val.alloc (.cells #[.int .i64 m, .slice a (ints L).length cap] 24)) (RetOwn (u.val.alloc (.cells #[.int .i64 m, .slice a (ints L).length cap] 24)).heap.size (u.val.alloc (.cells #[.int .i64 m, .slice a (ints L).length cap] 24)) (ints (those m (freeB L))))) := Lib.hid (by
    refine c_those_own (Later.self _) m hm 89 _ (freeB L) (fun args w => by kernel_rfl) (fun x v s hs => ?_)
    exact c_freeTell v L h256 hlen cap u.val.heap.size a s (by omega) (hI.to x) (Nat.lt_of_lt_of_le hr x.size) ((T0.out.keep x.below).c1))
  have q0 := T0.out.c0
  clear h hI T0 hr h256
  go_enter Try.func76, Try.ntmps76
  go_wp2_with (first | (go_at_call 26; refine (K.out).mono ?_; rintro e _ ⟨_, rfl, ⟨ad1, cp1, rfl, hO1⟩, v1, rfl⟩))
  go_ret
  exact RetP.mk ((u.alloc _).up v1) ⟨_, _, rfl, hO1.mono (by have := u.size; simp; omega)⟩

theorem c_free {B : Nat} {W : World} (u : Later B W) (m : Nat) (hm : m ≤ 8) (L : List Nat) (h256 : ∀ b, b ∈ L → b < 256) (hlen : L.length ≤ 4611686018427387904) (a : Option Addr) (cap : Nat) (h : IntsAt B W a (ints L)) :
    Calls Try.prog 76 #[.agg #[.int .i64 m, .slice a (ints L).length cap]] u.val (RetInts B W (ints (those m (freeB L)))) := (c_freeO u m hm L h256 hlen a cap h).mono fun _ _ h => h.ints

set_option maxRecDepth 100000 in
set_option maxHeartbeats 4000000 in
theorem c_leastR {B : Nat} {W : World} (u : Later B W) (m : Nat) (hm : m ≤ 8) (L : List Nat) (h256 : ∀ b, b ∈ L → b < 256) (hlen : L.length ≤ 4611686018427387904) (a : Option Addr) (cap : Nat) (h : IntsAt B W a (ints L)) :
    Calls Try.prog 77 #[.int .i64 m, .slice a (ints L).length cap] u.val (RetInts B W (ints (those m (leastB L)))) := by
  have hb := bit_le m hm
  have T0 : Hid (RowAt1 (u.val.alloc (.cells #[.slice a (ints L).length cap] 22)) u.val.heap.size 22 (.slice a (ints L).length cap)) := Lib.hid (heap_alloc_new _ _)
  have hI : IntsAt (u.val.alloc (.cells #[.slice a (ints L).length cap] 22)).heap.size (u.val.alloc (.cells #[.slice a (ints L).length cap] 22)) a (ints L) := h.to (u.alloc _)
  have hr : u.val.heap.size < (u.val.alloc (.cells #[.slice a (ints L).length cap] 22)).heap.size := by simp
  have K : Hid (Calls Try.prog 26 #[.int .i64 m, .func (.func 91) #[] #[.pointer (some ⟨u.val.heap.size, 0, none⟩)]] (u.val.alloc (.cells #[.slice a (ints L).length cap] 22)) (RetInts (u.val.alloc (.cells #[.slice a (ints L).length cap] 22)).heap.size (u.val.alloc (.cells #[.slice a (ints L).length cap] 22)) (ints (those m (leastB L))))) := Lib.hid (by
    refine c_those (Later.self _) m hm 91 _ (leastB L) (fun args w => by kernel_rfl) (fun x v s hs => ?_)
    exact c_leastTell v L h256 hlen cap u.val.heap.size a s (by omega) (hI.to x) (Nat.lt_of_lt_of_le hr x.size) ((T0.out.keep x.below).c0))
  clear h hI T0 hr h256
  go_enter Try.func77, Try.ntmps77
  go_wp2_with (first | (go_at_call 26; refine (K.out).mono ?_; rintro e _ ⟨_, rfl, ⟨ad1, cp1, rfl, hI1, hcp1⟩, v1, rfl⟩))
  go_ret
  exact RetP.mk ((u.alloc _).up v1) ⟨_, _, rfl, hI1, hcp1⟩

end Go.Proofs.Ytdcdhdlklppalaa

namespace Go.Proofs.Ytdcdhdlklppalaa
open Go.RowKit
set_option linter.unusedVariables false

/-- not within a basis, and so that each set within it but itself is -/
def circB (m : Nat) (L : List Nat) (s : Nat) : Bool := leastB (those m (fun s => !freeB L s)) s

set_option maxRecDepth 100000 in
set_option maxHeartbeats 4000000 in
theorem c_circTell {B : Nat} {W : World} (u : Later B W) (F : List Nat) (hlen : F.length ≤ 4611686018427387904) (cap g : Nat) (a : Option Addr) (s : Nat) (h : IntsAt B W a (ints F)) (hg : g < B) (hbox : W.cell? ⟨g, 0, none⟩ = some (.slice a (ints F).length cap)) :
    Calls Try.prog 78 #[.int .i64 s, .pointer (some ⟨g, 0, none⟩)] u.val (Ret B W (.bool (!decide (s ∈ F)))) := by
  have q1 : u.val.cell? ⟨g, 0, none⟩ = some (.slice a (ints F).length cap) := by rw [u.cell hg, hbox]
  have KH : Hid (Calls Try.prog 79 #[.slice a (ints F).length cap, .int .i64 s] u.val (Ret B W (.bool (decide (s ∈ F))))) := Lib.hid (by
    have := c_has u (ints F) (s : Int) a cap h (by rw [ints_len]; omega)
    rwa [show decide ((s : Int) ∈ ints F) = decide (s ∈ F) by simp only [mem_ints]] at this)
  clear h hbox
  generalize decide (s ∈ F) = d at *
  cases d
  all_goals
    go_enter Try.func78, Try.ntmps78
    go_wp2_with (first | (go_at_call 79; refine (KH.out).mono ?_; rintro e _ ⟨rfl, v2, rfl⟩))
    go_ret
    exact Ret.mk v2 rfl

set_option maxRecDepth 100000 in
set_option maxHeartbeats 4000000 in
theorem c_circuits {B : Nat} {W : World} (u : Later B W) (m : Nat) (hm : m ≤ 8) (L : List Nat) (h256 : ∀ b, b ∈ L → b < 256) (hlen : L.length ≤ 4611686018427387904) (a : Option Addr) (cap : Nat) (h : IntsAt B W a (ints L)) :
    Calls Try.prog 60 #[.agg #[.int .i64 m, .slice a (ints L).length cap]] u.val (RetInts B W (ints (those m (circB m L)))) := by
  have hb := bit_le m hm
  have T0 : Hid (Two (u.val.alloc (.cells #[.int .i64 m, .slice a (ints L).length cap] 24)) u.val.heap.size 24 (.int .i64 m) (.slice a (ints L).length cap)) := Lib.hid (Two.new _ _ _ _)
  have hr : u.val.heap.size < (u.val.alloc (.cells #[.int .i64 m, .slice a (ints L).length cap] 24)).heap.size := by simp
  have HV : Hid (∀ v : Later (u.val.alloc (.cells #[.int .i64 m, .slice a (ints L).length cap] 24)).heap.size (u.val.alloc (.cells #[.int .i64 m, .slice a (ints L).length cap] 24)), ∃ w : Later B W, w.val = v.val) := Lib.hid (fun v => ⟨(u.alloc _).up v, rfl⟩)
  have K0 : Hid (Calls Try.prog 76 #[.agg #[.int .i64 m, .slice a (ints L).length cap]] (u.val.alloc (.cells #[.int .i64 m, .slice a (ints L).length cap] 24)) (RetInts (u.val.alloc (.cells #[.int .i64 m, .slice a (ints L).length cap] 24)).heap.size (u.val.alloc (.cells #[.int .i64 m, .slice a (ints L).length cap] 24)) (ints (those m (freeB L))))) := Lib.hid (c_free (Later.self _) m hm L h256 hlen a cap (h.to (u.alloc _)))
  have q0 := T0.out.c0
  have q1 := T0.out.c1
  have HFl : Hid ((those m (freeB L)).length ≤ 256) := Lib.hid (by have := thoseTo_len (freeB L) (bit m); have e : those m (freeB L) = thoseTo (freeB L) (bit m) := rfl; rw [e]; omega)
  have HF : Hid (∀ s, s < bit m → (!decide (s ∈ those m (freeB L))) = !freeB L s) := Lib.hid (fun s hs => by
    have : decide (s ∈ those m (freeB L)) = freeB L s := by
      rw [Bool.eq_iff_iff, decide_eq_true_eq, mem_those]
      exact ⟨fun h => h.2, fun h => ⟨hs, h⟩⟩
    rw [this])
  have HN8 : Hid (∀ b, b ∈ those m (fun s => !freeB L s) → b < 256) := Lib.hid (fun b hb' => by have := (mem_those.1 hb').1; omega)
  have HNl : Hid ((those m (fun s => !freeB L s)).length ≤ 256) := Lib.hid (by have := thoseTo_len (fun s => !freeB L s) (bit m); have e : those m (fun s => !freeB L s) = thoseTo (fun s => !freeB L s) (bit m) := rfl; rw [e]; omega)
  clear h h256
  go_enter Try.func60, Try.ntmps60
  go_upto_region 2 with (first | (go_at_call 76; refine (K0.out).mono ?_; rintro e _ ⟨_, rfl, ⟨ad1, cp1, rfl, hI1, hcp1⟩, v1, rfl⟩))
  clear q0 q1 K0
  have X0 : Hid (RowAt1 (v1.val.alloc (.cells #[.slice ad1 (ints (those m (freeB L))).length cp1] 22)) v1.val.heap.size 22 (.slice ad1 (ints (those m (freeB L))).length cp1)) := Lib.hid (heap_alloc_new _ _)
  have hx : v1.val.heap.size < (v1.val.alloc (.cells #[.slice ad1 (ints (those m (freeB L))).length cp1] 22)).heap.size := by simp
  have hIX : IntsAt (v1.val.alloc (.cells #[.slice ad1 (ints (those m (freeB L))).length cp1] 22)).heap.size (v1.val.alloc (.cells #[.slice ad1 (ints (those m (freeB L))).length cp1] 22)) ad1 (ints (those m (freeB L))) := hI1.to ((Later.self v1.val).alloc _)
  have T1 := Lib.hid (T0.out.keep_at (v1.alloc (.cells #[.slice ad1 (ints (those m (freeB L))).length cp1] 22)).below hr)
  have K1 : Hid (Calls Try.prog 26 #[.int .i64 m, .func (.func 78) #[] #[.pointer (some ⟨v1.val.heap.size, 0, none⟩)]] (v1.val.alloc (.cells #[.slice ad1 (ints (those m (freeB L))).length cp1] 22)).drew (RetInts (v1.val.alloc (.cells #[.slice ad1 (ints (those m (freeB L))).length cp1] 22)).heap.size (v1.val.alloc (.cells #[.slice ad1 (ints (those m (freeB L))).length cp1] 22)) (ints (those m (fun s => !freeB L s))))) := Lib.hid (by
    refine c_those (Later.self _).drew m hm 78 _ (fun s => !freeB L s) (fun args w => by kernel_rfl) (fun x v s hs => ?_)
    have := c_circTell v (those m (freeB L)) (by have := HFl.out; omega) cp1 v1.val.heap.size ad1 s (hIX.to x) (Nat.lt_of_lt_of_le hx x.size) ((X0.out.keep x.below).c0)
    rwa [HF.out s hs] at this)
  have HVX : Hid (∀ y : Later (v1.val.alloc (.cells #[.slice ad1 (ints (those m (freeB L))).length cp1] 22)).heap.size (v1.val.alloc (.cells #[.slice ad1 (ints (those m (freeB L))).length cp1] 22)), ∃ w : Later B W, w.val = y.val) := Lib.hid (fun y => HV.out ((v1.alloc _).up y))
  have t0 := T1.out.c0
  clear hI1 hcp1 hIX
  go_region_held3 (fun w' => w'.cell? ⟨u.val.heap.size, 0, none⟩ = some (.int .i64 m)) (first | exact t0 | exact (T1.out.keep y1.below).c0 | exact ((T1.out.keep y1.below).keep y2.below).c0) (first | (go_at_call 26; refine (K1.out).mono ?_; rintro e _ ⟨_, rfl, ⟨ad2, cp2, rfl, hI2, hcp2⟩, y1, rfl⟩) | (go_at_call 77; refine (c_leastR (Later.self y1.val) m hm (those m (fun s => !freeB L s)) HN8.out (by have := HNl.out; omega) ad2 cp2 hI2).mono ?_; rintro e _ ⟨_, rfl, ⟨ad3, cp3, rfl, hI3, hcp3⟩, y2, rfl⟩))
  go_wp2
  go_ret
  refine RetP.of (HVX.out (y1.up y2)) ?_
  exact ⟨_, _, rfl, hI3, hcp3⟩

end Go.Proofs.Ytdcdhdlklppalaa
