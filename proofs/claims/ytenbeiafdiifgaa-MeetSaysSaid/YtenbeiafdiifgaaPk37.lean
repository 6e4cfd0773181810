
/-
  The reference's closure in both, taken again and again, plainly.
  Lists that a law holds while it goes on calling: one bundle, threaded through the calls.
-/
import Derived.Test.YtenbeiafdiifgaaPk30
import Derived.Test.YtenbeiafdiifgaaPk23
import Derived.Test.YtenbeiafdiifgaaPk08
import Derived.Test.YtenbeiafdiifgaaPk07
import Derived.Test.YtenbeiafdiifgaaPk10
namespace Go.Proofs.Ytenbeiafdiifgaa
set_option linter.unusedVariables false

/-- j times closed in one, then in the other -/
def clo2 (n : Nat) (L K : List Nat) (s : Nat) : Nat → Nat
  | 0 => s
  | j + 1 => clo n K (clo n L (clo2 n L K s j))
theorem clo2_lt {n : Nat} {L K : List Nat} {s : Nat} (hs : s < bit n) (j : Nat) : clo2 n L K s j < bit n := by
  induction j with
  | zero => exact hs
  | succ j ih => exact clo_lt K (clo_lt L ih)
theorem clo2_grows {n : Nat} {L K : List Nat} {s : Nat} (j : Nat) : sub (clo2 n L K s j) (clo2 n L K s (j + 1)) :=
  fun i hi => clo_sup n K _ i (clo_sup n L _ i hi)
theorem clo2_sup {n : Nat} {L K : List Nat} {s : Nat} (j : Nat) : sub s (clo2 n L K s j) := by
  induction j with
  | zero => exact fun _ h => h
  | succ j ih => exact fun i hi => clo2_grows j i (ih i hi)
theorem clo2_stay {n : Nat} {L K : List Nat} {s j : Nat} (h : clo2 n L K s (j + 1) = clo2 n L K s j) : ∀ d, clo2 n L K s (j + d) = clo2 n L K s j := by
  intro d
  induction d with
  | zero => rfl
  | succ d ih =>
    show clo n K (clo n L (clo2 n L K s (j + d))) = _
    rw [ih]; exact h
/-- either it stays, or it has grown each time -/
theorem clo2_or {n : Nat} (hn : n ≤ 8) {L K : List Nat} {s : Nat} (hs : s < bit n) (j : Nat) : clo2 n L K s (j + 1) = clo2 n L K s j ∨ j + 1 ≤ sz (clo2 n L K s (j + 1)) := by
  have hb := bit_le n hn
  have up : ∀ j, clo2 n L K s (j + 1) = clo2 n L K s j ∨ sz (clo2 n L K s j) < sz (clo2 n L K s (j + 1)) := fun j => by
    by_cases c : sz (clo2 n L K s (j + 1)) ≤ sz (clo2 n L K s j)
    · left
      have h1 := clo2_lt (L := L) (K := K) hs j
      have h2 := clo2_lt (L := L) (K := K) hs (j + 1)
      exact (eq_of_sub_sz (by omega) (by omega) (clo2_grows j) c).symm
    · right; omega
  induction j with
  | zero => rcases up 0 with h | h
            · exact .inl h
            · exact .inr (by omega)
  | succ j ih =>
    rcases ih with h | h
    · left
      have := clo2_stay h 2
      have h3 := clo2_stay h 1
      rw [show j + 1 + 1 = j + 2 by omega, this, h3]
    · rcases up (j + 1) with g | g
      · exact .inl g
      · exact .inr (by omega)
theorem sz_le_n {n s : Nat} (hn : n ≤ 8) (h : s < bit n) : sz s ≤ n := by
  have h1 : sz s ≤ sz (bit n - 1) := sz_mono (fun i hi => by rw [testBit_all, decide_eq_true_eq]; exact bitM_in h hi)
  have h2 : ∀ m : Fin 9, sz (bit m.val - 1) = m.val := by decide +kernel
  have := h2 ⟨n, by omega⟩
  simp only at this
  omega
/-- taken often enough it is the least closed set -/
theorem clo2_least {n r1 r2 : Nat} (hn : n ≤ 8) {L K : List Nat} (hL : L ≠ []) (hFL : Fam8 L r1) (hEL : Exch L) (hK : K ≠ []) (hFK : Fam8 K r2) (hEK : Exch K) {s : Nat} (hs : s < bit n) : LeastS n (rk L) (rk K) s (clo2 n L K s (2 * n)) := by
  have hst : clo2 n L K s (2 * n + 1) = clo2 n L K s (2 * n) := by
    rcases clo2_or hn (L := L) (K := K) hs (2 * n) with h | h
    · exact h
    · have := sz_le_n hn (clo2_lt (L := L) (K := K) hs (2 * n + 1))
      omega
  have hlt := clo2_lt (L := L) (K := K) hs (2 * n)
  have hsup := clo2_sup (n := n) (L := L) (K := K) (s := s) (2 * n)
  have hmin : ∀ u, u < bit n → sub s u → Shut2 n (rk L) (rk K) u → ∀ j, sub (clo2 n L K s j) u := fun u hu hsu hS j => by
    induction j with
    | zero => exact hsu
    | succ j ih =>
      have h1 := clo_min hn hL hFL hEL (clo2_lt (L := L) (K := K) hs j) hu (fun i hi hb => (hS i hi hb).1) ih
      exact clo_min hn hK hFK hEK (clo_lt L (clo2_lt (L := L) (K := K) hs j)) hu (fun i hi hb => (hS i hi hb).2) h1
  refine ⟨hlt, hsup, ?_, fun u hu hsu hS => hmin u hu hsu hS _⟩
  have h0 : clo n K (clo n L (clo2 n L K s (2 * n))) = clo2 n L K s (2 * n) := hst
  generalize clo2 n L K s (2 * n) = r at *
  have h1 : clo n L r = r := sub_antisymm (fun i hi => by
    have := clo_sup n K (clo n L r) i hi
    rwa [h0] at this) (clo_sup n L r)
  rw [h1] at h0
  have f1 := clo_flat hn hL hFL hEL hlt
  have f2 := clo_flat hn hK hFK hEK hlt
  rw [h1] at f1
  rw [h0] at f2
  exact fun i hi hb => ⟨f1 i hi hb, f2 i hi hb⟩
end Go.Proofs.Ytenbeiafdiifgaa

namespace Go.Proofs.Ytenbeiafdiifgaa
open Go.RowKit
set_option linter.unusedVariables false

/-- all these lists read in w -/
def Lists (w : World) (ls : List (Option Addr × List Int)) : Prop := ∀ p, p ∈ ls → IntsAt w.heap.size w p.1 p.2
theorem Lists.nil (w : World) : Lists w [] := fun p hp => by cases hp
theorem Lists.later {w : World} {ls : List (Option Addr × List Int)} (h : Lists w ls) (v : Later w.heap.size w) : Lists v.val ls := fun p hp => (h p hp).to v
theorem Lists.more {w : World} {ls : List (Option Addr × List Int)} (h : Lists w ls) {ad : Option Addr} {xs : List Int} (hx : IntsAt w.heap.size w ad xs) : Lists w ((ad, xs) :: ls) := fun p hp => by
  rcases List.mem_cons.1 hp with rfl | hp
  · exact hx
  · exact h p hp
/-- a call that hands back a list, threaded -/
def ThreadL (B : Nat) (W : World) (xs : List Int) (ls : List (Option Addr × List Int)) : Ending → World → Prop := fun e w' => ∃ (v' : Later B W) (ad : Option Addr) (cp : Nat), e = .returned (.slice ad xs.length cp) ∧ w' = v'.val ∧ Lists v'.val ((ad, xs) :: ls)
theorem threadL {P : Program} {f : FuncId} {args : Array Value} {B : Nat} {W : World} {xs : List Int} (v : Later B W) (h : Calls P f args v.val (RetInts v.val.heap.size v.val xs)) {ls : List (Option Addr × List Int)} (hl : Lists v.val ls) : Calls P f args v.val (ThreadL B W xs ls) := h.mono (by
  rintro e _ ⟨_, rfl, ⟨ad, cp, rfl, hI, _⟩, y, rfl⟩
  exact ⟨v.up y, ad, cp, rfl, rfl, (hl.later y).more hI⟩)
/-- a call that hands back a list and an error, threaded -/
def ThreadE (B : Nat) (W : World) (xs : List Int) (er : Int) (ls : List (Option Addr × List Int)) : Ending → World → Prop := fun e w' => ∃ (v' : Later B W) (ad : Option Addr) (cp : Nat), e = .returned (.tuple #[.slice ad xs.length cp, .int .i64 er]) ∧ w' = v'.val ∧ Lists v'.val ((ad, xs) :: ls)
theorem threadE {P : Program} {f : FuncId} {args : Array Value} {B : Nat} {W : World} {xs : List Int} {er : Int} (v : Later B W) (h : Calls P f args v.val (RetP v.val.heap.size v.val (ListE xs er))) {ls : List (Option Addr × List Int)} (hl : Lists v.val ls) : Calls P f args v.val (ThreadE B W xs er ls) := h.mono (by
  rintro e _ ⟨_, rfl, ⟨_, rfl, ⟨ad, cp, rfl, hI, _⟩⟩, y, rfl⟩
  exact ⟨v.up y, ad, cp, rfl, rfl, (hl.later y).more hI⟩)
/-- a call that hands back a value, threaded -/
def Thread0 (B : Nat) (W : World) (x : Value) (ls : List (Option Addr × List Int)) : Ending → World → Prop := fun e w' => ∃ v' : Later B W, e = .returned x ∧ w' = v'.val ∧ Lists v'.val ls
theorem thread0 {P : Program} {f : FuncId} {args : Array Value} {B : Nat} {W : World} {x : Value} (v : Later B W) (h : Calls P f args v.val (Ret v.val.heap.size v.val x)) {ls : List (Option Addr × List Int)} (hl : Lists v.val ls) : Calls P f args v.val (Thread0 B W x ls) := h.mono (by
  rintro e _ ⟨rfl, y, rfl⟩
  exact ⟨v.up y, rfl, rfl, hl.later y⟩)
/-- two of the lists are one: rotalaw.list says so -/
theorem thread_list {B : Nat} {W : World} (v : Later B W) (xs : List Int) (a b : Option Addr) (ca cb : Nat) {ls : List (Option Addr × List Int)} (hl : Lists v.val ls) (ha : (a, xs) ∈ ls) (hb : (b, xs) ∈ ls) (hlen : xs.length ≤ 4611686018427387904) :
    Calls Try.prog 17 #[.slice a xs.length ca, .int .i64 0, .slice b xs.length cb, .int .i64 0] v.val (Thread0 B W (.bool true) ls) :=
  thread0 v (c_list (Later.self v.val) xs xs a b ca cb 0 0 (hl _ ha) (hl _ hb) hlen rfl (by rw [if_pos rfl])) hl
/-- a call that hands back a matroid, threaded -/
def ThreadM (B : Nat) (W : World) (n : Int) (xs : List Int) (er : Int) (ls : List (Option Addr × List Int)) : Ending → World → Prop := fun e w' => ∃ (v' : Later B W) (ad : Option Addr) (cp : Nat), e = .returned (.tuple #[.agg #[.int .i64 n, .slice ad xs.length cp], .int .i64 er]) ∧ w' = v'.val ∧ Lists v'.val ((ad, xs) :: ls)
/-- a matroid and an error, in memory -/
def MatT (n : Int) (xs : List Int) (er : Int) (v : Value) (w : World) : Prop := ∃ v1, v = .tuple #[.agg #[.int .i64 n, v1], .int .i64 er] ∧ Reads w.heap.size w v1 xs
theorem MatT.no {e : Int} {w : World} : MatT 0 [] e (.tuple #[.agg #[.int .i64 0, .slice none 0 0], .int .i64 e]) w := ⟨_, rfl, Reads.nil _ _⟩
theorem threadM {P : Program} {f : FuncId} {args : Array Value} {B : Nat} {W : World} {n : Int} {xs : List Int} {er : Int} (v : Later B W) (h : Calls P f args v.val (RetP v.val.heap.size v.val (MatT n xs er))) {ls : List (Option Addr × List Int)} (hl : Lists v.val ls) : Calls P f args v.val (ThreadM B W n xs er ls) := h.mono (by
  rintro e _ ⟨_, rfl, ⟨_, rfl, ⟨ad, cp, rfl, hI, _⟩⟩, y, rfl⟩
  exact ⟨v.up y, ad, cp, rfl, rfl, (hl.later y).more hI⟩)
/-- a call that hands back a matroid alone, threaded -/
def ThreadA (B : Nat) (W : World) (n : Int) (xs : List Int) (ls : List (Option Addr × List Int)) : Ending → World → Prop := fun e w' => ∃ (v' : Later B W) (ad : Option Addr) (cp : Nat), e = .returned (.agg #[.int .i64 n, .slice ad xs.length cp]) ∧ w' = v'.val ∧ Lists v'.val ((ad, xs) :: ls)
theorem threadA {P : Program} {f : FuncId} {args : Array Value} {B : Nat} {W : World} {n : Int} {xs : List Int} (v : Later B W) (h : Calls P f args v.val (RetP v.val.heap.size v.val (MatV n xs))) {ls : List (Option Addr × List Int)} (hl : Lists v.val ls) : Calls P f args v.val (ThreadA B W n xs ls) := h.mono (by
  rintro e _ ⟨_, rfl, ⟨_, rfl, ⟨ad, cp, rfl, hI, _⟩⟩, y, rfl⟩
  exact ⟨v.up y, ad, cp, rfl, rfl, (hl.later y).more hI⟩)
theorem c_list_no {B : Nat} {W : World} (v : Later B W) (e : Int) (he : e ≠ 0) (a : Option Addr) (ca : Nat) :
    Calls Try.prog 17 #[.slice a 0 ca, .int .i64 e, .slice none 0 0, .int .i64 e] v.val (Ret B W (.bool true)) :=
  c_list v [] [] a none ca 0 e e IntsAt.nil IntsAt.nil (Nat.zero_le _) rfl (by rw [if_neg he])

end Go.Proofs.Ytenbeiafdiifgaa
