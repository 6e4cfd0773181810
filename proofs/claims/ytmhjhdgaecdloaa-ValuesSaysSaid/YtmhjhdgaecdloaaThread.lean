
/-
  Lists that a law holds while it goes on calling: one bundle, threaded through the calls.
-/
import Derived.Test.YtmhjhdgaecdloaaTabs
import Derived.Test.YtmhjhdgaecdloaaFam2
import Derived.Test.YtmhjhdgaecdloaaTold
import Derived.Test.YtmhjhdgaecdloaaBox0
namespace Go.Proofs.Ytmhjhdgaecdloaa
open Go.RowKit
set_option linter.unusedVariables false

/-- all these lists read in w -/
def Lists (w : World) (ls : List (Option Addr × List Int)) : Prop := ∀ p, p ∈ ls → IntsAt w.heap.size w p.1 p.2
theorem Lists.nil (w : World) : Lists w [] := fun p hp => by cases hp
theorem Lists.later {w : World} {ls : List (Option Addr × List Int)} (h : Lists w ls) (v : Later w.heap.size w) : Lists v.val ls := fun p hp => (h p hp).to v
theorem Lists.more {w : World} {ls : List (Option Addr × List Int)} (h : Lists w ls) {ad : Option Addr} {xs : List Int} (hx : IntsAt w.heap.size w ad xs) : Lists w ((ad, xs) :: ls) := fun p hp => by
  rcases List.mem_cons.1 hp with rfl | hp
  · exact hx
  · exact h p hp
/-- a call that hands back a list, threaded -/
def ThreadL (B : Nat) (W : World) (xs : List Int) (ls : List (Option Addr × List Int)) : Ending → World → Prop := fun e w' => ∃ (v' : Later B W) (ad : Option Addr) (cp : Nat), e = .returned (.slice ad xs.length cp) ∧ w' = v'.val ∧ Lists v'.val ((ad, xs) :: ls)
theorem threadL {P : Program} {f : FuncId} {args : Array Value} {B : Nat} {W : World} {xs : List Int} (v : Later B W) (h : Calls P f args v.val (RetInts v.val.heap.size v.val xs)) {ls : List (Option Addr × List Int)} (hl : Lists v.val ls) : Calls P f args v.val (ThreadL B W xs ls) := h.mono (by
  rintro e _ ⟨_, rfl, ⟨ad, cp, rfl, hI, _⟩, y, rfl⟩
  exact ⟨v.up y, ad, cp, rfl, rfl, (hl.later y).more hI⟩)
/-- a call that hands back a list and an error, threaded -/
def ThreadE (B : Nat) (W : World) (xs : List Int) (er : Int) (ls : List (Option Addr × List Int)) : Ending → World → Prop := fun e w' => ∃ (v' : Later B W) (ad : Option Addr) (cp : Nat), e = .returned (.tuple #[.slice ad xs.length cp, .int .i64 er]) ∧ w' = v'.val ∧ Lists v'.val ((ad, xs) :: ls)
theorem threadE {P : Program} {f : FuncId} {args : Array Value} {B : Nat} {W : World} {xs : List Int} {er : Int} (v : Later B W) (h : Calls P f args v.val (RetP v.val.heap.size v.val (ListE xs er))) {ls : List (Option Addr × List Int)} (hl : Lists v.val ls) : Calls P f args v.val (ThreadE B W xs er ls) := h.mono (by
  rintro e _ ⟨_, rfl, ⟨_, rfl, ⟨ad, cp, rfl, hI, _⟩⟩, y, rfl⟩
  exact ⟨v.up y, ad, cp, rfl, rfl, (hl.later y).more hI⟩)
/-- a call that hands back a value, threaded -/
def Thread0 (B : Nat) (W : World) (x : Value) (ls : List (Option Addr × List Int)) : Ending → World → Prop := fun e w' => ∃ v' : Later B W, e = .returned x ∧ w' = v'.val ∧ Lists v'.val ls
theorem thread0 {P : Program} {f : FuncId} {args : Array Value} {B : Nat} {W : World} {x : Value} (v : Later B W) (h : Calls P f args v.val (Ret v.val.heap.size v.val x)) {ls : List (Option Addr × List Int)} (hl : Lists v.val ls) : Calls P f args v.val (Thread0 B W x ls) := h.mono (by
  rintro e _ ⟨rfl, y, rfl⟩
  exact ⟨v.up y, rfl, rfl, hl.later y⟩)
/-- a call that hands back a matroid, threaded -/
def ThreadM (B : Nat) (W : World) (n : Int) (xs : List Int) (er : Int) (ls : List (Option Addr × List Int)) : Ending → World → Prop := fun e w' => ∃ (v' : Later B W) (ad : Option Addr) (cp : Nat), e = .returned (.tuple #[.agg #[.int .i64 n, .slice ad xs.length cp], .int .i64 er]) ∧ w' = v'.val ∧ Lists v'.val ((ad, xs) :: ls)
/-- a matroid and an error, in memory -/
def MatT (n : Int) (xs : List Int) (er : Int) (v : Value) (w : World) : Prop := ∃ v1, v = .tuple #[.agg #[.int .i64 n, v1], .int .i64 er] ∧ Reads w.heap.size w v1 xs
theorem MatT.no {e : Int} {w : World} : MatT 0 [] e (.tuple #[.agg #[.int .i64 0, .slice none 0 0], .int .i64 e]) w := ⟨_, rfl, Reads.nil _ _⟩
theorem threadM {P : Program} {f : FuncId} {args : Array Value} {B : Nat} {W : World} {n : Int} {xs : List Int} {er : Int} (v : Later B W) (h : Calls P f args v.val (RetP v.val.heap.size v.val (MatT n xs er))) {ls : List (Option Addr × List Int)} (hl : Lists v.val ls) : Calls P f args v.val (ThreadM B W n xs er ls) := h.mono (by
  rintro e _ ⟨_, rfl, ⟨_, rfl, ⟨ad, cp, rfl, hI, _⟩⟩, y, rfl⟩
  exact ⟨v.up y, ad, cp, rfl, rfl, (hl.later y).more hI⟩)
/-- a call that hands back a matroid alone, threaded -/
def ThreadA (B : Nat) (W : World) (n : Int) (xs : List Int) (ls : List (Option Addr × List Int)) : Ending → World → Prop := fun e w' => ∃ (v' : Later B W) (ad : Option Addr) (cp : Nat), e = .returned (.agg #[.int .i64 n, .slice ad xs.length cp]) ∧ w' = v'.val ∧ Lists v'.val ((ad, xs) :: ls)
theorem threadA {P : Program} {f : FuncId} {args : Array Value} {B : Nat} {W : World} {n : Int} {xs : List Int} (v : Later B W) (h : Calls P f args v.val (RetP v.val.heap.size v.val (MatV n xs))) {ls : List (Option Addr × List Int)} (hl : Lists v.val ls) : Calls P f args v.val (ThreadA B W n xs ls) := h.mono (by
  rintro e _ ⟨_, rfl, ⟨_, rfl, ⟨ad, cp, rfl, hI, _⟩⟩, y, rfl⟩
  exact ⟨v.up y, ad, cp, rfl, rfl, (hl.later y).more hI⟩)
/-- two lists are one matroid's bases: rotalaw.told says so -/
theorem thread_told {B : Nat} {W : World} (v : Later B W) (n : Int) (xs : List Int) (a b : Option Addr) (ca cb : Nat) {ls : List (Option Addr × List Int)} (hl : Lists v.val ls) (ha : (a, xs) ∈ ls) (hb : (b, xs) ∈ ls) (hlen : xs.length ≤ 4611686018427387904) :
    Calls Try.prog 13 #[.agg #[.int .i64 n, .slice a xs.length ca], .int .i64 0, .agg #[.int .i64 n, .slice b xs.length cb], .int .i64 0] v.val (Thread0 B W (.bool true) ls) :=
  thread0 v (c_told (Later.self v.val) n n xs xs a b ca cb 0 0 (hl _ ha) (hl _ hb) hlen rfl (by rw [if_pos rfl]; exact ⟨rfl, rfl⟩)) hl
theorem c_told_no {B : Nat} {W : World} (v : Later B W) (e : Int) (he : e ≠ 0) (a : Option Addr) (ca : Nat) :
    Calls Try.prog 13 #[.agg #[.int .i64 0, .slice a 0 ca], .int .i64 e, .agg #[.int .i64 0, .slice none 0 0], .int .i64 e] v.val (Ret B W (.bool true)) :=
  c_told v 0 0 [] [] a none ca 0 e e IntsAt.nil IntsAt.nil (Nat.zero_le _) rfl (by rw [if_neg he]; exact ⟨rfl, rfl⟩)
end Go.Proofs.Ytmhjhdgaecdloaa
