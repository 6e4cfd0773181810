
/-
  The ground that all walks of this seat stand on: worlds that agree below a block number, slices that read as lists, small facts on bits. Nothing of the program is proved here.
  Contracts of the small functions that nearly every statement reaches: All, In, Within, IsSet, Check, IsFamily, Family, Index, Contains, Has, BinarySearch. Each holds in whatever world, at the arguments that its own premises name.
  Plain facts on sets as numbers below 256: the least element, what is left without it, one element in or out. No program in sight.
-/
import Derived.Test.YtmcffbmhkbijlaaRows
import Derived.WalkKit
import Derived.WalkSpells
import Derived.WalkLawsBesides
import Derived.ProofKit
import Derived.OpenShut
import Derived.Deep.QuietTactic
import Derived.BigQuiet
import Derived.Lib.Hide
import Derived.Deep.LoopGhost
import Derived.Deep.Slices
import Derived.Deep.SlicePairs
import Derived.Deep.Matrix
import Derived.Lib.SmallJoins
import Derived.Laws.MakeOwn
import Derived.Deep.RegionWith
import Derived.StillTailTactics
namespace Go.Proofs.Ytmcffbmhkbijlaa
open Go.RowKit
set_option linter.unusedVariables false

/-- worlds that agree with W below block B, and have at least B blocks -/
structure Later (B : Nat) (W : World) where
  val : World
  below : Below B W val
  size : B ≤ val.heap.size

namespace Later
variable {B : Nat} {W : World}
def self (W : World) : Later W.heap.size W := ⟨W, Below.refl _ _, Nat.le_refl _⟩
def to (u : Later B W) (w : World) (h : Below B u.val w) : Later B W := ⟨w, u.below.trans h, Nat.le_trans u.size h.size⟩
/-- what is later than a later world is later -/
def up (u : Later B W) (v : Later u.val.heap.size u.val) : Later B W := u.to v.val (v.below.mono u.size)
theorem cell (u : Later B W) {a : Addr} (h : a.block < B) : u.val.cell? a = W.cell? a := u.below.cell h
def drew (u : Later B W) : Later B W := u.to u.val.drew (Below.refl _ _).drew
def alloc (u : Later B W) (o : Obj) : Later B W := u.to (u.val.alloc o) ((Below.refl _ _).alloc u.size o)
def set (u : Later B W) (a : Addr) (h : B ≤ a.block) (x : Value) : Later B W := u.to (u.val.setCell a x) ((Below.refl _ _).setCell h x)
end Later

theorem wp_region_later {P : Program} {id : Nat} {Q : Exit → Act → World → Prop} {a : Act} {B : Nat} {W : World} {l : List Oper} (u : Later B W) (hm : P.follows .mixedOrders = true) (hB : Region.lexB .any l.toArray = true)
    (h : Nonempty (Later B W) → wpQuiet P l.toArray (fun w' => ∃ u : Later B W, w' = u.val) (fun a' => ∀ u : Later B W, Q .normal a' u.val) l a) : (Code.region id l.toArray true).wp P Q a u.val := by
  refine wp_region_quiet (C := fun w' => ∃ u : Later B W, w' = u.val) hm hB ⟨u.drew, rfl⟩ ?_
  have e : (fun a' => ∀ w', (∃ u : Later B W, w' = u.val) → Q .normal a' w') = (fun a' => ∀ u : Later B W, Q .normal a' u.val) := by
    funext a'
    apply propext
    constructor
    · intro h u; exact h _ ⟨u, rfl⟩
    · rintro h _ ⟨u, rfl⟩; exact h u
  simpa [e] using h ⟨u⟩

/-- a drawing region whose first n operations read and whose tail is forced: one walk; the world behind the draw is one more later world -/
theorem wp_region_later_tail {P : Program} {id : Nat} {Q : Exit → Act → World → Prop} {a : Act} {B : Nat} {W : World} {l : List Oper} (u : Later B W) (n : Nat) (hm : P.follows .mixedOrders = true) (hB : Region.lexTailB .any l.toArray n = true)
    (h : ∀ v : Later B W, wpStill P l.toArray v.val (fun a' => wpList P l.toArray Q (l.drop n) a' v.val) (l.take n) a) : (Code.region id l.toArray true).wp P Q a u.val :=
  wp_region_still_tail n hm hB (h u.drew)

/-- what a call gives back: this value, in a later world -/
def Ret (B : Nat) (W : World) (v : Value) : Ending → World → Prop := fun e w' => e = .returned v ∧ ∃ u' : Later B W, w' = u'.val
theorem Ret.mk {B : Nat} {W : World} {v x : Value} (u : Later B W) (h : x = v) : Ret B W v (.returned x) u.val := ⟨by rw [h], u, rfl⟩
/-- what a call gives back: a value of which this is known, in a later world -/
def RetP (B : Nat) (W : World) (Q : Value → World → Prop) : Ending → World → Prop := fun e w' => ∃ v, e = .returned v ∧ Q v w' ∧ ∃ u' : Later B W, w' = u'.val
theorem RetP.mk {B : Nat} {W : World} {Q : Value → World → Prop} {x : Value} (u : Later B W) (h : Q x u.val) : RetP B W Q (.returned x) u.val := ⟨x, rfl, h, u, rfl⟩

theorem Ret.of {B : Nat} {W w : World} {v x : Value} (hw : ∃ w' : Later B W, w'.val = w) (h : x = v) : Ret B W v (.returned x) w := by
  obtain ⟨w', rfl⟩ := hw
  exact Ret.mk w' h
theorem RetP.of {B : Nat} {W w : World} {Q : Value → World → Prop} {x : Value} (hw : ∃ w' : Later B W, w'.val = w) (h : Q x w) : RetP B W Q (.returned x) w := by
  obtain ⟨w', rfl⟩ := hw
  exact RetP.mk w' h
theorem vint {k : IntKind} {a b : Int} (h : a = b) : Value.int k a = .int k b := by rw [h]
theorem vbool {a b : Bool} (h : a = b) : Value.bool a = .bool b := by rw [h]

theorem dcall_t {P : Program} {f : FuncId} {args : Array Value} {w : World} {B : Nat} {W : World} {p : Prop} [Decidable p] (h : Calls P f args w (Ret B W (.bool (decide p)))) (hp : p) : Calls P f args w (Ret B W (.bool true)) := by
  rwa [decide_eq_true hp] at h
theorem dcall_f {P : Program} {f : FuncId} {args : Array Value} {w : World} {B : Nat} {W : World} {p : Prop} [Decidable p] (h : Calls P f args w (Ret B W (.bool (decide p)))) (hp : ¬ p) : Calls P f args w (Ret B W (.bool false)) := by
  rwa [decide_eq_false hp] at h

/-! ### lists in memory -/
/-- the numbers of a slice, at blocks below B -/
def IntsAt (B : Nat) (w : World) (a : Option Addr) (xs : List Int) : Prop :=
  xs ≠ [] → ∃ b off, a = some ⟨b, off, none⟩ ∧ b < B ∧ ∀ k, k < xs.length → w.cell? ⟨b, off + k, none⟩ = some (.int .i64 (xs.getD k 0))

theorem IntsAt.at {B w a xs} (h : IntsAt B w a xs) {k : Nat} (hk : k < xs.length) : ∃ b off, a = some ⟨b, off, none⟩ ∧ b < B ∧ ∀ u : Later B w, ∀ k, k < xs.length → u.val.cell? ⟨b, off + k, none⟩ = some (.int .i64 (xs.getD k 0)) := by
  obtain ⟨b, off, e, hb, hc⟩ := h (by rintro rfl; simp at hk)
  exact ⟨b, off, e, hb, fun u k hk => by rw [u.cell (a := ⟨b, off + k, none⟩) hb]; exact hc k hk⟩

theorem IntsAt.later {B w a xs} (h : IntsAt B w a xs) {w' : World} (hb : Below B w w') : IntsAt B w' a xs := by
  intro hne
  obtain ⟨b, off, rfl, hlt, hc⟩ := h hne
  exact ⟨b, off, rfl, hlt, fun k hk => by rw [hb.cell (p := ⟨b, off + k, none⟩) hlt]; exact hc k hk⟩

theorem IntsAt.mono {B B' w a xs} (h : IntsAt B w a xs) (hB : B ≤ B') : IntsAt B' w a xs := by
  intro hne
  obtain ⟨b, off, rfl, hlt, hc⟩ := h hne
  exact ⟨b, off, rfl, by omega, hc⟩

/-- to the context of a later world -/
theorem IntsAt.to {B w a xs} (h : IntsAt B w a xs) (u : Later B w) : IntsAt u.val.heap.size u.val a xs := (h.later u.below).mono u.size

theorem IntsAt.nil {B w a} : IntsAt B w a [] := fun h => absurd rfl h

/-- a row that the call owns reads as a list -/
theorem IntsAt.of_owns {w : World} {base n : Nat} {E : TypeId} {a : Option Addr} {cap : Nat} {xs : List Int} (h : w.ownsRow base E 1 (.slice a n cap) n (xs.map (Value.int .i64))) : IntsAt w.heap.size w a xs := by
  intro hne
  have hlt := h.lt
  have hcells := fun g hg => h.cells (g := g) hg
  have hlen : xs.length = n := by have := h.1; simpa using this
  rcases h.2 with ⟨e, hn⟩ | ⟨g, cap', cur, e, hb, _⟩
  · exact absurd (List.length_eq_zero_iff.1 (by omega)) hne
  · cases e
    refine ⟨g, 0, rfl, (hlt g rfl).2, fun k hk => ?_⟩
    have := hcells g rfl k (.int .i64 (xs.getD k 0)) (by simp [hk])
    have e : (⟨g, 0, none⟩ : Addr).add k = ⟨g, 0 + k, none⟩ := by unfold Addr.add; split <;> simp_all
    rw [← e]; exact this

/-- edges of a graph: two cells each -/
def EdgesAt (B : Nat) (w : World) (a : Option Addr) (es : List (Int × Int)) : Prop :=
  es ≠ [] → ∃ b off, a = some ⟨b, off, none⟩ ∧ b < B ∧ ∀ k, k < es.length → w.cell? ⟨b, off + k * 2, none⟩ = some (.int .i64 (es.getD k (0, 0)).1) ∧ w.cell? ⟨b, off + k * 2 + 1, none⟩ = some (.int .i64 (es.getD k (0, 0)).2)

theorem EdgesAt.at {B w a es} (h : EdgesAt B w a es) {k : Nat} (hk : k < es.length) : ∃ b off, a = some ⟨b, off, none⟩ ∧ b < B ∧ ∀ u : Later B w, ∀ k, k < es.length → u.val.cell? ⟨b, off + k * 2, none⟩ = some (.int .i64 (es.getD k (0, 0)).1) ∧ u.val.cell? ⟨b, off + k * 2 + 1, none⟩ = some (.int .i64 (es.getD k (0, 0)).2) := by
  obtain ⟨b, off, e, hb, hc⟩ := h (by rintro rfl; simp at hk)
  exact ⟨b, off, e, hb, fun u k hk => by rw [u.cell (a := ⟨b, off + k * 2, none⟩) hb, u.cell (a := ⟨b, off + k * 2 + 1, none⟩) hb]; exact hc k hk⟩

theorem EdgesAt.later {B w a es} (h : EdgesAt B w a es) {w' : World} (hb : Below B w w') : EdgesAt B w' a es := by
  intro hne
  obtain ⟨b, off, rfl, hlt, hc⟩ := h hne
  exact ⟨b, off, rfl, hlt, fun k hk => by rw [hb.cell (p := ⟨b, off + k * 2, none⟩) hlt, hb.cell (p := ⟨b, off + k * 2 + 1, none⟩) hlt]; exact hc k hk⟩

theorem EdgesAt.mono {B B' w a es} (h : EdgesAt B w a es) (hB : B ≤ B') : EdgesAt B' w a es := by
  intro hne
  obtain ⟨b, off, rfl, hlt, hc⟩ := h hne
  exact ⟨b, off, rfl, by omega, hc⟩

theorem EdgesAt.to {B w a es} (h : EdgesAt B w a es) (u : Later B w) : EdgesAt u.val.heap.size u.val a es := (h.later u.below).mono u.size

/-! ### tests, decided both ways -/
theorem ilt (a b : Int) : (a < b ∧ decide (a < b) = true) ∨ (b ≤ a ∧ decide (a < b) = false) := by
  by_cases h : a < b
  · exact .inl ⟨h, by simpa using h⟩
  · exact .inr ⟨by omega, by simpa using h⟩
theorem ile (a b : Int) : (a ≤ b ∧ decide (a ≤ b) = true) ∨ (b < a ∧ decide (a ≤ b) = false) := by
  by_cases h : a ≤ b
  · exact .inl ⟨h, by simpa using h⟩
  · exact .inr ⟨by omega, by simpa using h⟩
theorem nlt (a b : Nat) : (a < b ∧ decide (a < b) = true) ∨ (b ≤ a ∧ decide (a < b) = false) := by
  by_cases h : a < b
  · exact .inl ⟨h, by simpa using h⟩
  · exact .inr ⟨by omega, by simpa using h⟩
theorem nle (a b : Nat) : (a ≤ b ∧ decide (a ≤ b) = true) ∨ (b < a ∧ decide (a ≤ b) = false) := by
  by_cases h : a ≤ b
  · exact .inl ⟨h, by simpa using h⟩
  · exact .inr ⟨by omega, by simpa using h⟩
/-- an equality test: as a fact, and as both Bools -/
theorem ieq (a b : Int) : (a = b ∧ (a == b) = true ∧ (a != b) = false) ∨ (a ≠ b ∧ (a == b) = false ∧ (a != b) = true) := by
  by_cases h : a = b
  · exact .inl ⟨h, by simpa using h, by simpa using h⟩
  · exact .inr ⟨h, by simpa using h, by simpa using h⟩
theorem dec_true {p : Prop} [Decidable p] (h : p) : true = decide p := by simpa using h
theorem dec_false {p : Prop} [Decidable p] (h : ¬ p) : false = decide p := by simpa using h
theorem bool_dec {b : Bool} {p : Prop} [Decidable p] (h : b = true ↔ p) : b = decide p := by rw [Bool.eq_iff_iff]; simpa using h
theorem btf (b : Bool) : b = true ∨ b = false := by cases b <;> simp

/-! ### bits -/
theorem ofInt_i64 (a : Nat) (ha : a < 9223372036854775808) : (BitVec.ofInt 64 (a : Int)).toNat = a := by
  rw [BitVec.ofInt_natCast, BitVec.toNat_ofNat]; exact Nat.mod_eq_of_lt (by omega)
theorem i64_and (a b : Nat) (ha : a < 9223372036854775808) (hb : b < 9223372036854775808) : bits .and .i64 (a : Int) (b : Int) = ((a &&& b : Nat) : Int) := by
  have hx : a &&& b < 2 ^ 63 := Nat.and_lt_two_pow _ (by omega)
  show IntKind.i64.wrap ((BitVec.ofInt 64 (a : Int) &&& BitVec.ofInt 64 (b : Int)).toNat : Int) = _
  rw [BitVec.toNat_and, ofInt_i64 a ha, ofInt_i64 b hb, IntKind.wrap_i64]
  omega
theorem i64_or (a b : Nat) (ha : a < 9223372036854775808) (hb : b < 9223372036854775808) : bits .or .i64 (a : Int) (b : Int) = ((a ||| b : Nat) : Int) := by
  have hx : a ||| b < 2 ^ 63 := Nat.or_lt_two_pow (by omega) (by omega)
  show IntKind.i64.wrap ((BitVec.ofInt 64 (a : Int) ||| BitVec.ofInt 64 (b : Int)).toNat : Int) = _
  rw [BitVec.toNat_or, ofInt_i64 a ha, ofInt_i64 b hb, IntKind.wrap_i64]
  omega
theorem i64_xor (a b : Nat) (ha : a < 9223372036854775808) (hb : b < 9223372036854775808) : bits .xor .i64 (a : Int) (b : Int) = ((a ^^^ b : Nat) : Int) := by
  have hx : a ^^^ b < 2 ^ 63 := Nat.xor_lt_two_pow (by omega) (by omega)
  show IntKind.i64.wrap ((BitVec.ofInt 64 (a : Int) ^^^ BitVec.ofInt 64 (b : Int)).toNat : Int) = _
  rw [BitVec.toNat_xor, ofInt_i64 a ha, ofInt_i64 b hb, IntKind.wrap_i64]
  omega
/-- a without b -/
def nand (a b : Nat) : Nat := a &&& (a ^^^ b)
theorem nand_testBit (a b i : Nat) : (nand a b).testBit i = (a.testBit i && !b.testBit i) := by
  unfold nand; rw [Nat.testBit_and, Nat.testBit_xor]; cases a.testBit i <;> cases b.testBit i <;> rfl
theorem nand_lt (a b k : Nat) (h : a < 2 ^ k) : nand a b < 2 ^ k := by
  unfold nand; rw [Nat.and_comm]; exact Nat.and_lt_two_pow _ h
theorem nand_le (a b : Nat) : nand a b ≤ a := Nat.and_le_left
theorem i64_andNot (a b : Nat) (ha : a < 9223372036854775808) (hb : b < 9223372036854775808) : bits .andNot .i64 (a : Int) (b : Int) = ((nand a b : Nat) : Int) := by
  have e : (BitVec.ofInt 64 (a : Int) &&& ~~~ BitVec.ofInt 64 (b : Int)).toNat = nand a b := by
    apply Nat.eq_of_testBit_eq
    intro i
    rw [BitVec.testBit_toNat, BitVec.getLsbD_and, BitVec.getLsbD_not, nand_testBit, ← BitVec.testBit_toNat, ← BitVec.testBit_toNat, ofInt_i64 a ha, ofInt_i64 b hb]
    by_cases hi : i < 64
    · simp [hi]
    · have : a.testBit i = false := Nat.testBit_lt_two_pow (Nat.lt_of_lt_of_le ha (by
        have : (2:Nat) ^ 63 ≤ 2 ^ i := Nat.pow_le_pow_right (by decide) (by omega)
        omega))
      simp [this]
  have hx := nand_lt a b 63 (by omega)
  show IntKind.i64.wrap ((BitVec.ofInt 64 (a : Int) &&& ~~~ BitVec.ofInt 64 (b : Int)).toNat : Int) = _
  rw [e, IntKind.wrap_i64]
  omega
/-- the least element of a set, as a set -/
def low (a : Nat) : Nat := nand a (a - 1)
theorem pow_le8 (n : Nat) (h : n ≤ 8) : 1 ≤ 2 ^ n ∧ 2 ^ n ≤ 256 := by
  have : ∀ n : Fin 9, 1 ≤ 2 ^ n.val ∧ 2 ^ n.val ≤ 256 := by decide
  exact this ⟨n, by omega⟩
theorem cast_pow (m : Nat) : ((2 : Int) ^ m) = ((2 ^ m : Nat) : Int) := by simp
/-- x & -x -/
theorem i64_low (a : Nat) (ha : a < 256) : bits .and .i64 (a : Int) (-(a : Int)) = ((low a : Nat) : Int) := by
  have : ∀ a : Fin 256, bits .and .i64 (a.val : Int) (-(a.val : Int)) = ((low a.val : Nat) : Int) := by decide +kernel
  exact this ⟨a, ha⟩
/-- x & (x - 1) -/
def drop1 (a : Nat) : Nat := a &&& (a - 1)

end Go.Proofs.Ytmcffbmhkbijlaa

namespace Go.Proofs.Ytmcffbmhkbijlaa
open Go.RowKit
set_option linter.unusedVariables false

/-- the set of one element -/
def bit (i : Nat) : Nat := 2 ^ i
theorem bit_cast (i : Nat) : ((2 : Int) ^ i) = ((bit i : Nat) : Int) := cast_pow i
theorem bit_le (i : Nat) (h : i ≤ 8) : 1 ≤ bit i ∧ bit i ≤ 256 := pow_le8 i h
theorem bit_lt (i : Nat) (h : i < 8) : 1 ≤ bit i ∧ bit i ≤ 128 := by
  have : ∀ n : Fin 8, 1 ≤ 2 ^ n.val ∧ 2 ^ n.val ≤ 128 := by decide
  exact this ⟨i, h⟩
def all (n : Int) : Int := ((2 ^ n.toNat - 1 : Nat) : Int)
theorem all_nat (n : Nat) : all (n : Int) = ((bit n - 1 : Nat) : Int) := rfl
theorem all_le (n : Int) (h8 : n ≤ 8) : 0 ≤ all n ∧ all n ≤ 255 := by
  have := pow_le8 n.toNat (by omega)
  unfold all; omega

set_option maxHeartbeats 400000 in
theorem c_all {B : Nat} {W : World} (u : Later B W) (n : Int) (h0 : 0 ≤ n) (h8 : n ≤ 8) :
    Calls Try.prog 17 #[.int .i64 n] u.val (Ret B W (.int .i64 (all n))) := by
  obtain ⟨m, rfl⟩ := Int.eq_ofNat_of_zero_le h0
  have hb := bit_le m (by omega)
  have hc := bit_cast m
  go_enter Try.func17, Try.ntmps17
  go_wp2
  go_ret
  exact Ret.mk u (vint (by rw [all_nat]; omega))

set_option maxHeartbeats 400000 in
theorem c_in {B : Nat} {W : World} (u : Later B W) (s i : Nat) (_hs : s < 9223372036854775808) (hi : i < 64) :
    Calls Try.prog 36 #[.int .i64 s, .int .i64 i] u.val (Ret B W (.bool (s.testBit i))) := by
  go_enter Try.func36, Try.ntmps36
  go_wp2
  go_ret
  refine Ret.mk u (vbool ?_)
  have e1 : ((s : Int) / 2 ^ i) = ((s / 2 ^ i : Nat) : Int) := by simp
  rw [e1]
  have e2 : (((s / 2 ^ i : Nat) : Int)).tmod 2 = ((s / 2 ^ i % 2 : Nat) : Int) := rfl
  show ((((s / 2 ^ i : Nat) : Int)).tmod 2 == 1) = _
  rw [e2, Nat.testBit_eq_decide_div_mod_eq]
  have : s / 2 ^ i % 2 < 2 := Nat.mod_lt _ (by decide)
  rw [Bool.eq_iff_iff]
  simp
  omega

set_option maxHeartbeats 400000 in
theorem c_within {B : Nat} {W : World} (u : Later B W) (a b : Nat) (ha : a < 9223372036854775808) (hb : b < 9223372036854775808) :
    Calls Try.prog 39 #[.int .i64 a, .int .i64 b] u.val (Ret B W (.bool (decide (a ||| b = b)))) := by
  have h1 := i64_or a b ha hb
  go_enter Try.func39, Try.ntmps39
  go_wp2
  go_ret
  exact Ret.mk u (vbool (bool_dec (by rw [beq_iff_eq]; omega)))

/-- a set of n elements -/
def isSet (n s : Int) : Prop := 0 ≤ n ∧ n ≤ 8 ∧ 0 ≤ s ∧ s ≤ all n
instance (n s : Int) : Decidable (isSet n s) := by unfold isSet; infer_instance

def errno (b : Bool) (e : Int) : Int := if b then 0 else e
theorem errno_ok {p : Prop} [Decidable p] {e : Int} (h : p) : 0 = errno (decide p) e := by simp [errno, h]
theorem errno_bad {p : Prop} [Decidable p] {e : Int} (h : ¬ p) : e = errno (decide p) e := by simp [errno, h]

end Go.Proofs.Ytmcffbmhkbijlaa

namespace Go.Proofs.Ytmcffbmhkbijlaa
set_option linter.unusedVariables false

theorem i64_drop1 (a : Nat) (ha : a < 256) (h0 : 1 ≤ a) : bits .and .i64 (a : Int) ((a : Int) - 1) = ((drop1 a : Nat) : Int) := by
  have : ∀ a : Fin 256, 1 ≤ a.val → bits .and .i64 (a.val : Int) ((a.val : Int) - 1) = ((drop1 a.val : Nat) : Int) := by decide +kernel
  exact this ⟨a, ha⟩ h0

theorem low_facts (t : Nat) (ht : t < 256) (h0 : t ≠ 0) : ∃ e, e < 8 ∧ low t = bit e ∧ t.testBit e = true ∧ (∀ i, i < 8 → (drop1 t).testBit i = (t.testBit i && decide (i ≠ e))) ∧ (∀ i, i < 8 → t.testBit i = true → e ≤ i) ∧ drop1 t < t := by
  have : ∀ t : Fin 256, t.val ≠ 0 → ∃ e : Fin 8, low t.val = bit e.val ∧ t.val.testBit e.val = true ∧ (∀ i : Fin 8, (drop1 t.val).testBit i.val = (t.val.testBit i.val && decide (i.val ≠ e.val))) ∧ (∀ i : Fin 8, t.val.testBit i.val = true → e.val ≤ i.val) ∧ drop1 t.val < t.val := by decide +kernel
  obtain ⟨e, h1, h2, h3, h4, h5⟩ := this ⟨t, ht⟩ h0
  exact ⟨e.val, e.isLt, h1, h2, fun i hi => h3 ⟨i, hi⟩, fun i hi => h4 ⟨i, hi⟩, h5⟩
theorem low_lt (t : Nat) (ht : t < 256) : low t < 256 := nand_lt _ _ 8 ht
theorem drop1_lt (t : Nat) (ht : t < 256) : drop1 t < 256 := Nat.lt_of_le_of_lt Nat.and_le_left ht

/-- out of a set: its number less -/
theorem nand_bit (s e : Nat) (hs : s < 256) (he : e < 8) (h : s.testBit e = true) : nand s (bit e) = s - bit e := by
  have : ∀ s : Fin 256, ∀ e : Fin 8, s.val.testBit e.val = true → nand s.val (bit e.val) = s.val - bit e.val := by decide +kernel
  exact this ⟨s, hs⟩ ⟨e, he⟩ h
theorem or_bit (s e : Nat) (hs : s < 256) (he : e < 8) (h : s.testBit e = false) : s ||| bit e = s + bit e := by
  have : ∀ s : Fin 256, ∀ e : Fin 8, s.val.testBit e.val = false → s.val ||| bit e.val = s.val + bit e.val := by decide +kernel
  exact this ⟨s, hs⟩ ⟨e, he⟩ h
theorem bit_le_of_mem (s e : Nat) (hs : s < 256) (he : e < 8) (h : s.testBit e = true) : bit e ≤ s := by
  have : ∀ s : Fin 256, ∀ e : Fin 8, s.val.testBit e.val = true → bit e.val ≤ s.val := by decide +kernel
  exact this ⟨s, hs⟩ ⟨e, he⟩ h
theorem testBit_bit (e i : Nat) : (bit e).testBit i = decide (e = i) := by unfold bit; rw [Nat.testBit_two_pow]
theorem testBit_hi (s i : Nat) (hs : s < 256) (hi : 8 ≤ i) : s.testBit i = false :=
  Nat.testBit_lt_two_pow (Nat.lt_of_lt_of_le hs (by
    have : (2:Nat) ^ 8 ≤ 2 ^ i := Nat.pow_le_pow_right (by decide) hi
    omega))
theorem lt_of_testBit {s i : Nat} (hs : s < 256) (h : s.testBit i = true) : i < 8 := by
  by_cases hi : i < 8
  · exact hi
  · rw [testBit_hi s i hs (by omega)] at h; cases h
theorem eq_of_bits {a b : Nat} (ha : a < 256) (hb : b < 256) (h : ∀ i, i < 8 → a.testBit i = b.testBit i) : a = b := by
  apply Nat.eq_of_testBit_eq
  intro i
  by_cases hi : i < 8
  · exact h i hi
  · rw [testBit_hi a i ha (by omega), testBit_hi b i hb (by omega)]
theorem or_lt (a b : Nat) (ha : a < 256) (hb : b < 256) : a ||| b < 256 := Nat.or_lt_two_pow (n := 8) ha hb
theorem bit_lt256 (e : Nat) (h : e < 8) : bit e < 256 := by have := bit_lt e h; omega
theorem eq_zero_of_bits {a : Nat} (ha : a < 256) (h : ∀ i, i < 8 → a.testBit i = false) : a = 0 :=
  eq_of_bits ha (by decide) (fun i hi => by rw [h i hi]; simp)
theorem exists_bit {a : Nat} (ha : a < 256) (h : a ≠ 0) : ∃ i, i < 8 ∧ a.testBit i = true := by
  obtain ⟨e, he, _, h2, _⟩ := low_facts a ha h
  exact ⟨e, he, h2⟩
/-- a set of n elements has no element from n on -/
theorem lt_pow_iff (n s : Nat) (hn : n ≤ 8) (hs : s < 256) : s < bit n ↔ ∀ i, i < 8 → s.testBit i = true → i < n := by
  have : ∀ n : Fin 9, ∀ s : Fin 256, s.val < bit n.val ↔ ∀ i : Fin 8, s.val.testBit i.val = true → i.val < n.val := by decide +kernel
  have := this ⟨n, by omega⟩ ⟨s, hs⟩
  rw [this]
  exact ⟨fun h i hi => h ⟨i, hi⟩, fun h i => h i.val i.isLt⟩
theorem testBit_all (n i : Nat) : (bit n - 1).testBit i = decide (i < n) := by unfold bit; exact Nat.testBit_two_pow_sub_one ..
/-- a is within b -/
theorem or_eq_iff {a b : Nat} : a ||| b = b ↔ ∀ i, a.testBit i = true → b.testBit i = true := by
  constructor
  · intro h i hi; rw [← h, Nat.testBit_or, hi]; rfl
  · intro h
    apply Nat.eq_of_testBit_eq
    intro i
    rw [Nat.testBit_or]
    cases ha : a.testBit i
    · simp
    · simp [h i ha]
theorem and_eq_zero_iff {a b : Nat} : a &&& b = 0 ↔ ∀ i, a.testBit i = true → b.testBit i = false := by
  constructor
  · intro h i hi
    have := congrArg (fun x => x.testBit i) h
    simpa [Nat.testBit_and, hi] using this
  · intro h
    apply Nat.eq_of_testBit_eq
    intro i
    rw [Nat.testBit_and, Nat.zero_testBit]
    cases ha : a.testBit i
    · simp
    · simp [h i ha]

/-- s >> i & 1 -/
theorem i64_bit (s i : Nat) (hs : s < 256) (hi : i < 8) : bits .and .i64 ((s : Int) / ((bit i : Nat) : Int)) 1 = (((s.testBit i).toNat : Nat) : Int) := by
  have : ∀ s : Fin 256, ∀ i : Fin 8, bits .and .i64 (((s.val / bit i.val : Nat) : Int)) 1 = (((s.val.testBit i.val).toNat : Nat) : Int) := by decide +kernel
  rw [← this ⟨s, hs⟩ ⟨i, hi⟩, Int.natCast_ediv]
theorem testBit_low {t e i : Nat} (h : low t = bit e) : (low t).testBit i = decide (e = i) := by rw [h, testBit_bit]
theorem and_low_zero {a t e : Nat} (h : low t = bit e) : (a &&& low t = 0) ↔ a.testBit e = false := by
  rw [h, and_eq_zero_iff]
  constructor
  · intro h
    cases hb : a.testBit e
    · rfl
    · have := h e hb; rw [testBit_bit] at this; simp at this
  · intro h i hi
    rw [testBit_bit]
    by_cases c : e = i
    · subst c; rw [h] at hi; cases hi
    · simp [c]
/-- a set of what is so -/
theorem exists_set (P : Nat → Prop) : ∃ X, X < 256 ∧ ∀ i, i < 8 → (X.testBit i = true ↔ P i) := by
  have step : ∀ k, k ≤ 8 → ∃ X, X < 256 ∧ ∀ i, i < 8 → (X.testBit i = true ↔ (i < k ∧ P i)) := by
    intro k
    induction k with
    | zero => intro _; exact ⟨0, by decide, fun i _ => by simp⟩
    | succ k ih =>
      intro hk
      obtain ⟨X, hX, h⟩ := ih (by omega)
      by_cases hp : P k
      · refine ⟨X ||| bit k, or_lt _ _ hX (bit_lt256 k (by omega)), fun i hi => ?_⟩
        rw [Nat.testBit_or, testBit_bit]
        by_cases c : k = i
        · subst c; simp [hp]
        · simp only [c, decide_false, Bool.or_false]
          rw [h i hi]
          constructor
          · rintro ⟨a, b⟩; exact ⟨by omega, b⟩
          · rintro ⟨a, b⟩; exact ⟨by omega, b⟩
      · refine ⟨X, hX, fun i hi => ?_⟩
        rw [h i hi]
        constructor
        · rintro ⟨a, b⟩; exact ⟨by omega, b⟩
        · rintro ⟨a, b⟩
          by_cases c : i = k
          · subst c; exact absurd b hp
          · exact ⟨by omega, b⟩
  obtain ⟨X, hX, h⟩ := step 8 (Nat.le_refl _)
  exact ⟨X, hX, fun i hi => by rw [h i hi]; exact ⟨fun x => x.2, fun x => ⟨hi, x⟩⟩⟩

end Go.Proofs.Ytmcffbmhkbijlaa
