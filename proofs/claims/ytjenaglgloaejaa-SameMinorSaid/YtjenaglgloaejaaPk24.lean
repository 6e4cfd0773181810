
/-
  rotalaw.one, where both sides agree.
  Lists that a law holds while it goes on calling: one bundle, threaded through the calls.
  rotalaw.SameMinor where one of the two is no matroid.
-/
import Derived.Test.YtjenaglgloaejaaPk04
import Derived.Test.YtjenaglgloaejaaPk06
import Derived.Test.YtjenaglgloaejaaPk05
import Derived.Test.YtjenaglgloaejaaPk23
import Derived.Test.YtjenaglgloaejaaPk09
namespace Go.Proofs.Ytjenaglgloaejaa
open Go.RowKit
set_option linter.unusedVariables false

theorem c_one_yes {B : Nat} {W : World} (u : Later B W) (x : Int) : Calls Try.prog 9 #[.int .i64 x, .int .i64 0, .int .i64 x, .int .i64 0] u.val (Ret B W (.bool true)) := c_one u x 0 x 0 rfl (by rw [if_pos rfl])
theorem c_one_no {B : Nat} {W : World} (u : Later B W) (y e : Int) (he : e ≠ 0) : Calls Try.prog 9 #[.int .i64 0, .int .i64 e, .int .i64 y, .int .i64 e] u.val (Ret B W (.bool true)) := c_one u 0 e y e rfl (by rw [if_neg he])

end Go.Proofs.Ytjenaglgloaejaa

namespace Go.Proofs.Ytjenaglgloaejaa
open Go.RowKit
set_option linter.unusedVariables false

/-- all these lists read in w -/
def Lists (w : World) (ls : List (Option Addr × List Int)) : Prop := ∀ p, p ∈ ls → IntsAt w.heap.size w p.1 p.2
theorem Lists.nil (w : World) : Lists w [] := fun p hp => by cases hp
theorem Lists.later {w : World} {ls : List (Option Addr × List Int)} (h : Lists w ls) (v : Later w.heap.size w) : Lists v.val ls := fun p hp => (h p hp).to v
theorem Lists.more {w : World} {ls : List (Option Addr × List Int)} (h : Lists w ls) {ad : Option Addr} {xs : List Int} (hx : IntsAt w.heap.size w ad xs) : Lists w ((ad, xs) :: ls) := fun p hp => by
  rcases List.mem_cons.1 hp with rfl | hp
  · exact hx
  · exact h p hp
/-- a call that hands back a list, threaded -/
def ThreadL (B : Nat) (W : World) (xs : List Int) (ls : List (Option Addr × List Int)) : Ending → World → Prop := fun e w' => ∃ (v' : Later B W) (ad : Option Addr) (cp : Nat), e = .returned (.slice ad xs.length cp) ∧ w' = v'.val ∧ Lists v'.val ((ad, xs) :: ls)
theorem threadL {P : Program} {f : FuncId} {args : Array Value} {B : Nat} {W : World} {xs : List Int} (v : Later B W) (h : Calls P f args v.val (RetInts v.val.heap.size v.val xs)) {ls : List (Option Addr × List Int)} (hl : Lists v.val ls) : Calls P f args v.val (ThreadL B W xs ls) := h.mono (by
  rintro e _ ⟨_, rfl, ⟨ad, cp, rfl, hI, _⟩, y, rfl⟩
  exact ⟨v.up y, ad, cp, rfl, rfl, (hl.later y).more hI⟩)
/-- a call that hands back a list and an error, threaded -/
def ThreadE (B : Nat) (W : World) (xs : List Int) (er : Int) (ls : List (Option Addr × List Int)) : Ending → World → Prop := fun e w' => ∃ (v' : Later B W) (ad : Option Addr) (cp : Nat), e = .returned (.tuple #[.slice ad xs.length cp, .int .i64 er]) ∧ w' = v'.val ∧ Lists v'.val ((ad, xs) :: ls)
theorem threadE {P : Program} {f : FuncId} {args : Array Value} {B : Nat} {W : World} {xs : List Int} {er : Int} (v : Later B W) (h : Calls P f args v.val (RetP v.val.heap.size v.val (ListE xs er))) {ls : List (Option Addr × List Int)} (hl : Lists v.val ls) : Calls P f args v.val (ThreadE B W xs er ls) := h.mono (by
  rintro e _ ⟨_, rfl, ⟨_, rfl, ⟨ad, cp, rfl, hI, _⟩⟩, y, rfl⟩
  exact ⟨v.up y, ad, cp, rfl, rfl, (hl.later y).more hI⟩)
/-- a call that hands back a value, threaded -/
def Thread0 (B : Nat) (W : World) (x : Value) (ls : List (Option Addr × List Int)) : Ending → World → Prop := fun e w' => ∃ v' : Later B W, e = .returned x ∧ w' = v'.val ∧ Lists v'.val ls
theorem thread0 {P : Program} {f : FuncId} {args : Array Value} {B : Nat} {W : World} {x : Value} (v : Later B W) (h : Calls P f args v.val (Ret v.val.heap.size v.val x)) {ls : List (Option Addr × List Int)} (hl : Lists v.val ls) : Calls P f args v.val (Thread0 B W x ls) := h.mono (by
  rintro e _ ⟨rfl, y, rfl⟩
  exact ⟨v.up y, rfl, rfl, hl.later y⟩)
/-- two of the lists are one: rotalaw.list says so -/
theorem thread_list {B : Nat} {W : World} (v : Later B W) (xs : List Int) (a b : Option Addr) (ca cb : Nat) {ls : List (Option Addr × List Int)} (hl : Lists v.val ls) (ha : (a, xs) ∈ ls) (hb : (b, xs) ∈ ls) (hlen : xs.length ≤ 4611686018427387904) :
    Calls Try.prog 21 #[.slice a xs.length ca, .int .i64 0, .slice b xs.length cb, .int .i64 0] v.val (Thread0 B W (.bool true) ls) :=
  thread0 v (c_list (Later.self v.val) xs xs a b ca cb 0 0 (hl _ ha) (hl _ hb) hlen rfl (by rw [if_pos rfl])) hl
/-- a call that hands back a matroid, threaded -/
def ThreadM (B : Nat) (W : World) (n : Int) (xs : List Int) (er : Int) (ls : List (Option Addr × List Int)) : Ending → World → Prop := fun e w' => ∃ (v' : Later B W) (ad : Option Addr) (cp : Nat), e = .returned (.tuple #[.agg #[.int .i64 n, .slice ad xs.length cp], .int .i64 er]) ∧ w' = v'.val ∧ Lists v'.val ((ad, xs) :: ls)
/-- a matroid and an error, in memory -/
def MatT (n : Int) (xs : List Int) (er : Int) (v : Value) (w : World) : Prop := ∃ v1, v = .tuple #[.agg #[.int .i64 n, v1], .int .i64 er] ∧ Reads w.heap.size w v1 xs
theorem MatT.no {e : Int} {w : World} : MatT 0 [] e (.tuple #[.agg #[.int .i64 0, .slice none 0 0], .int .i64 e]) w := ⟨_, rfl, Reads.nil _ _⟩
theorem threadM {P : Program} {f : FuncId} {args : Array Value} {B : Nat} {W : World} {n : Int} {xs : List Int} {er : Int} (v : Later B W) (h : Calls P f args v.val (RetP v.val.heap.size v.val (MatT n xs er))) {ls : List (Option Addr × List Int)} (hl : Lists v.val ls) : Calls P f args v.val (ThreadM B W n xs er ls) := h.mono (by
  rintro e _ ⟨_, rfl, ⟨_, rfl, ⟨ad, cp, rfl, hI, _⟩⟩, y, rfl⟩
  exact ⟨v.up y, ad, cp, rfl, rfl, (hl.later y).more hI⟩)
/-- a call that hands back a matroid alone, threaded -/
def ThreadA (B : Nat) (W : World) (n : Int) (xs : List Int) (ls : List (Option Addr × List Int)) : Ending → World → Prop := fun e w' => ∃ (v' : Later B W) (ad : Option Addr) (cp : Nat), e = .returned (.agg #[.int .i64 n, .slice ad xs.length cp]) ∧ w' = v'.val ∧ Lists v'.val ((ad, xs) :: ls)
theorem threadA {P : Program} {f : FuncId} {args : Array Value} {B : Nat} {W : World} {n : Int} {xs : List Int} (v : Later B W) (h : Calls P f args v.val (RetP v.val.heap.size v.val (MatV n xs))) {ls : List (Option Addr × List Int)} (hl : Lists v.val ls) : Calls P f args v.val (ThreadA B W n xs ls) := h.mono (by
  rintro e _ ⟨_, rfl, ⟨_, rfl, ⟨ad, cp, rfl, hI, _⟩⟩, y, rfl⟩
  exact ⟨v.up y, ad, cp, rfl, rfl, (hl.later y).more hI⟩)
/-- two lists are one matroid's bases: rotalaw.told says so -/
theorem thread_told {B : Nat} {W : World} (v : Later B W) (n : Int) (xs : List Int) (a b : Option Addr) (ca cb : Nat) {ls : List (Option Addr × List Int)} (hl : Lists v.val ls) (ha : (a, xs) ∈ ls) (hb : (b, xs) ∈ ls) (hlen : xs.length ≤ 4611686018427387904) :
    Calls Try.prog 20 #[.agg #[.int .i64 n, .slice a xs.length ca], .int .i64 0, .agg #[.int .i64 n, .slice b xs.length cb], .int .i64 0] v.val (Thread0 B W (.bool true) ls) :=
  thread0 v (c_told (Later.self v.val) n n xs xs a b ca cb 0 0 (hl _ ha) (hl _ hb) hlen rfl (by rw [if_pos rfl]; exact ⟨rfl, rfl⟩)) hl
theorem c_told_no {B : Nat} {W : World} (v : Later B W) (e : Int) (he : e ≠ 0) (a : Option Addr) (ca : Nat) :
    Calls Try.prog 20 #[.agg #[.int .i64 0, .slice a 0 ca], .int .i64 e, .agg #[.int .i64 0, .slice none 0 0], .int .i64 e] v.val (Ret B W (.bool true)) :=
  c_told v 0 0 [] [] a none ca 0 e e IntsAt.nil IntsAt.nil (Nat.zero_le _) rfl (by rw [if_neg he]; exact ⟨rfl, rfl⟩)
theorem c_list_no {B : Nat} {W : World} (v : Later B W) (e : Int) (he : e ≠ 0) (a : Option Addr) (ca : Nat) :
    Calls Try.prog 21 #[.slice a 0 ca, .int .i64 e, .slice none 0 0, .int .i64 e] v.val (Ret B W (.bool true)) :=
  c_list v [] [] a none ca 0 e e IntsAt.nil IntsAt.nil (Nat.zero_le _) rfl (by rw [if_neg he])

end Go.Proofs.Ytjenaglgloaejaa

namespace Go.Proofs.Ytjenaglgloaejaa
open Go.RowKit
set_option linter.unusedVariables false

set_option maxRecDepth 100000 in
set_option maxHeartbeats 8000000 in
theorem law_sameMinor_no {B : Nat} {W : World} (u : Later B W) (n1 n2 : Int) (l1 l2 : List Int) (a b : Option Addr) (cap capb : Nat) (e1 e2 er : Int) (h1 : IntsAt B W a l1) (h2 : IntsAt B W b l2) (hlen1 : l1.length ≤ 4611686018427387904) (hlen2 : l2.length ≤ 4611686018427387904) (he1 : MatIs n1 l1 e1) (he2 : MatIs n2 l2 e2) (hc : (e1 ≠ 0 ∧ er = e1) ∨ (e1 = 0 ∧ e2 ≠ 0 ∧ er = e2)) (h0 : er ≠ 0) :
    Calls Try.prog 3 #[.agg #[.int .i64 n1, .slice a l1.length cap], .agg #[.int .i64 n2, .slice b l2.length capb]] u.val (Ret B W (.bool true)) := by
  have hs1 : (u.val.alloc (.cells #[.int .i64 n1, .slice a l1.length cap] 24)).heap.size = u.val.heap.size + 1 := by simp
  have HA : Hid (RowL ((u.val.alloc (.cells #[.int .i64 n1, .slice a l1.length cap] 24)).alloc (.cells #[.int .i64 n2, .slice b l2.length capb] 24)) u.val.heap.size 24 [.int .i64 n1, .slice a l1.length cap]) := Lib.hid ((RowL.new _ _ _).keep ((Below.refl _ _).alloc (Nat.le_refl _) _))
  have HB2 : Hid (RowL ((u.val.alloc (.cells #[.int .i64 n1, .slice a l1.length cap] 24)).alloc (.cells #[.int .i64 n2, .slice b l2.length capb] 24)) (u.val.heap.size + 1) 24 [.int .i64 n2, .slice b l2.length capb]) := Lib.hid (by
    have := RowL.new (u.val.alloc (.cells #[.int .i64 n1, .slice a l1.length cap] 24)) 24 [.int .i64 n2, .slice b l2.length capb]
    rwa [hs1] at this)
  have HVY : Hid (∀ v : Later ((u.val.alloc (.cells #[.int .i64 n1, .slice a l1.length cap] 24)).alloc (.cells #[.int .i64 n2, .slice b l2.length capb] 24)).heap.size ((u.val.alloc (.cells #[.int .i64 n1, .slice a l1.length cap] 24)).alloc (.cells #[.int .i64 n2, .slice b l2.length capb] 24)), ∃ w : Later B W, w.val = v.val) := Lib.hid (fun v => ⟨((u.alloc _).alloc _).up v, rfl⟩)
  have I1 : Hid (IntsAt ((u.val.alloc (.cells #[.int .i64 n1, .slice a l1.length cap] 24)).alloc (.cells #[.int .i64 n2, .slice b l2.length capb] 24)).heap.size ((u.val.alloc (.cells #[.int .i64 n1, .slice a l1.length cap] 24)).alloc (.cells #[.int .i64 n2, .slice b l2.length capb] 24)) a l1) := Lib.hid (h1.to ((u.alloc _).alloc _))
  have I2 : Hid (IntsAt ((u.val.alloc (.cells #[.int .i64 n1, .slice a l1.length cap] 24)).alloc (.cells #[.int .i64 n2, .slice b l2.length capb] 24)).heap.size ((u.val.alloc (.cells #[.int .i64 n1, .slice a l1.length cap] 24)).alloc (.cells #[.int .i64 n2, .slice b l2.length capb] 24)) b l2) := Lib.hid (h2.to ((u.alloc _).alloc _))
  have KM1 := Lib.hid (fun v : Later ((u.val.alloc (.cells #[.int .i64 n1, .slice a l1.length cap] 24)).alloc (.cells #[.int .i64 n2, .slice b l2.length capb] 24)).heap.size ((u.val.alloc (.cells #[.int .i64 n1, .slice a l1.length cap] 24)).alloc (.cells #[.int .i64 n2, .slice b l2.length capb] 24)) => c_refMatroid v n1 l1 a cap e1 I1.out hlen1 he1)
  have KM2 := Lib.hid (fun v : Later ((u.val.alloc (.cells #[.int .i64 n1, .slice a l1.length cap] 24)).alloc (.cells #[.int .i64 n2, .slice b l2.length capb] 24)).heap.size ((u.val.alloc (.cells #[.int .i64 n1, .slice a l1.length cap] 24)).alloc (.cells #[.int .i64 n2, .slice b l2.length capb] 24)) => c_refMatroid v n2 l2 b capb e2 I2.out hlen2 he2)
  have KN := Lib.hid (fun v : Later ((u.val.alloc (.cells #[.int .i64 n1, .slice a l1.length cap] 24)).alloc (.cells #[.int .i64 n2, .slice b l2.length capb] 24)).heap.size ((u.val.alloc (.cells #[.int .i64 n1, .slice a l1.length cap] 24)).alloc (.cells #[.int .i64 n2, .slice b l2.length capb] 24)) => c_sameMinor_no v n1 n2 l1 l2 a b cap capb I1.out I2.out hlen1 hlen2 e1 e2 er he1 he2 hc)
  have KO := Lib.hid (fun v : Later ((u.val.alloc (.cells #[.int .i64 n1, .slice a l1.length cap] 24)).alloc (.cells #[.int .i64 n2, .slice b l2.length capb] 24)).heap.size ((u.val.alloc (.cells #[.int .i64 n1, .slice a l1.length cap] 24)).alloc (.cells #[.int .i64 n2, .slice b l2.length capb] 24)) => c_one_no v 0 er h0)
  have HC := Lib.hid hc
  clear h1 h2 he1 he2 hs1 hc
  go_enter Try.func3, Try.ntmps3
  go_upto_region 1 with fail
  generalize ((u.val.alloc (.cells #[.int .i64 n1, .slice a l1.length cap] 24)).alloc (.cells #[.int .i64 n2, .slice b l2.length capb] 24)) = A at *
  generalize u.val.heap.size = g at *
  have q0 : ∀ w : Later A.heap.size A, w.val.cell? ⟨g, 0, none⟩ = some (.int .i64 n1) := fun w => (HA.out.keep w.below).cell rfl
  have q1 : ∀ w : Later A.heap.size A, w.val.cell? ⟨g, 1, none⟩ = some (.slice a l1.length cap) := fun w => (HA.out.keep w.below).cell rfl
  have q2 : ∀ w : Later A.heap.size A, w.val.cell? ⟨g + 1, 0, none⟩ = some (.int .i64 n2) := fun w => (HB2.out.keep w.below).cell rfl
  have q3 : ∀ w : Later A.heap.size A, w.val.cell? ⟨g + 1, 1, none⟩ = some (.slice b l2.length capb) := fun w => (HB2.out.keep w.below).cell rfl
  have qa : ∀ w : Later A.heap.size A, w.val.cell? ⟨g, 0, none⟩ = some (.int .i64 n1) ∧ w.val.cell? ⟨g, 1, none⟩ = some (.slice a l1.length cap) ∧ w.val.cell? ⟨g + 1, 0, none⟩ = some (.int .i64 n2) ∧ w.val.cell? ⟨g + 1, 1, none⟩ = some (.slice b l2.length capb) := fun w => ⟨q0 w, q1 w, q2 w, q3 w⟩
  obtain ⟨z, hz⟩ : ∃ z : Later A.heap.size A, z.val = A := ⟨Later.self _, rfl⟩
  rw [← hz]
  clear hz u HA HB2 q0 q1 q2 q3
  generalize g + 1 = g' at *
  have z0 : ((0 : Int) == 0) = true := rfl
  have d9 : (er == 0) = false := by rw [beq_eq_false_iff_ne]; exact h0
  obtain ⟨p0, p1, p2, p3⟩ := qa z
  rcases HC.out with ⟨g1, rfl⟩ | ⟨rfl, g1, rfl⟩
  · clear HC
    go_wp2_with (first | (go_at_call 5; (with_reducible refine (KN.out z).mono ?_); rintro e _ ⟨rfl, v0, rfl⟩; obtain ⟨r0, r1, r2, r3⟩ := qa v0) | (go_at_call 6; (with_reducible refine (KM1.out v0).mono ?_); rintro e _ ⟨rfl, v1, rfl⟩) | (go_at_call 9; (with_reducible refine (KO.out v1).mono ?_); rintro e _ ⟨rfl, v2, rfl⟩) | (go_at_call 9; (with_reducible refine (KO.out v2).mono ?_); rintro e _ ⟨rfl, v3, rfl⟩) | fail)
    go_ret
    exact Ret.of (HVY.out v3) rfl
  · clear HC
    go_wp2_with (first | (go_at_call 5; (with_reducible refine (KN.out z).mono ?_); rintro e _ ⟨rfl, v0, rfl⟩; obtain ⟨r0, r1, r2, r3⟩ := qa v0) | (go_at_call 6; (with_reducible refine (KM1.out v0).mono ?_); rintro e _ ⟨rfl, v1, rfl⟩; obtain ⟨r0, r1, r2, r3⟩ := qa v1) | (go_at_call 6; (with_reducible refine (KM2.out v1).mono ?_); rintro e _ ⟨rfl, v4, rfl⟩) | (go_at_call 9; (with_reducible refine (KO.out v4).mono ?_); rintro e _ ⟨rfl, v2, rfl⟩) | (go_at_call 9; (with_reducible refine (KO.out v2).mono ?_); rintro e _ ⟨rfl, v3, rfl⟩) | fail)
    go_ret
    exact Ret.of (HVY.out v3) rfl
end Go.Proofs.Ytjenaglgloaejaa
