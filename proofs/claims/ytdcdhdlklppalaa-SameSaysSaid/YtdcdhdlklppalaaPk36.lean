
/-
  Lists that a law holds while it goes on calling: one bundle, threaded through the calls.
  same.Isomorphic.
-/
import Derived.Test.YtdcdhdlklppalaaPk06
import Derived.Test.YtdcdhdlklppalaaPk04
import Derived.Test.YtdcdhdlklppalaaPk05
import Derived.Test.YtdcdhdlklppalaaPk28
import Derived.Test.YtdcdhdlklppalaaPk26
namespace Go.Proofs.Ytdcdhdlklppalaa
open Go.RowKit
set_option linter.unusedVariables false

/-- all these lists read in w -/
def Lists (w : World) (ls : List (Option Addr × List Int)) : Prop := ∀ p, p ∈ ls → IntsAt w.heap.size w p.1 p.2
theorem Lists.nil (w : World) : Lists w [] := fun p hp => by cases hp
theorem Lists.later {w : World} {ls : List (Option Addr × List Int)} (h : Lists w ls) (v : Later w.heap.size w) : Lists v.val ls := fun p hp => (h p hp).to v
theorem Lists.more {w : World} {ls : List (Option Addr × List Int)} (h : Lists w ls) {ad : Option Addr} {xs : List Int} (hx : IntsAt w.heap.size w ad xs) : Lists w ((ad, xs) :: ls) := fun p hp => by
  rcases List.mem_cons.1 hp with rfl | hp
  · exact hx
  · exact h p hp
/-- a call that hands back a list, threaded -/
def ThreadL (B : Nat) (W : World) (xs : List Int) (ls : List (Option Addr × List Int)) : Ending → World → Prop := fun e w' => ∃ (v' : Later B W) (ad : Option Addr) (cp : Nat), e = .returned (.slice ad xs.length cp) ∧ w' = v'.val ∧ Lists v'.val ((ad, xs) :: ls)
theorem threadL {P : Program} {f : FuncId} {args : Array Value} {B : Nat} {W : World} {xs : List Int} (v : Later B W) (h : Calls P f args v.val (RetInts v.val.heap.size v.val xs)) {ls : List (Option Addr × List Int)} (hl : Lists v.val ls) : Calls P f args v.val (ThreadL B W xs ls) := h.mono (by
  rintro e _ ⟨_, rfl, ⟨ad, cp, rfl, hI, _⟩, y, rfl⟩
  exact ⟨v.up y, ad, cp, rfl, rfl, (hl.later y).more hI⟩)
/-- a call that hands back a list and an error, threaded -/
def ThreadE (B : Nat) (W : World) (xs : List Int) (er : Int) (ls : List (Option Addr × List Int)) : Ending → World → Prop := fun e w' => ∃ (v' : Later B W) (ad : Option Addr) (cp : Nat), e = .returned (.tuple #[.slice ad xs.length cp, .int .i64 er]) ∧ w' = v'.val ∧ Lists v'.val ((ad, xs) :: ls)
theorem threadE {P : Program} {f : FuncId} {args : Array Value} {B : Nat} {W : World} {xs : List Int} {er : Int} (v : Later B W) (h : Calls P f args v.val (RetP v.val.heap.size v.val (ListE xs er))) {ls : List (Option Addr × List Int)} (hl : Lists v.val ls) : Calls P f args v.val (ThreadE B W xs er ls) := h.mono (by
  rintro e _ ⟨_, rfl, ⟨_, rfl, ⟨ad, cp, rfl, hI, _⟩⟩, y, rfl⟩
  exact ⟨v.up y, ad, cp, rfl, rfl, (hl.later y).more hI⟩)
/-- a call that hands back a value, threaded -/
def Thread0 (B : Nat) (W : World) (x : Value) (ls : List (Option Addr × List Int)) : Ending → World → Prop := fun e w' => ∃ v' : Later B W, e = .returned x ∧ w' = v'.val ∧ Lists v'.val ls
theorem thread0 {P : Program} {f : FuncId} {args : Array Value} {B : Nat} {W : World} {x : Value} (v : Later B W) (h : Calls P f args v.val (Ret v.val.heap.size v.val x)) {ls : List (Option Addr × List Int)} (hl : Lists v.val ls) : Calls P f args v.val (Thread0 B W x ls) := h.mono (by
  rintro e _ ⟨rfl, y, rfl⟩
  exact ⟨v.up y, rfl, rfl, hl.later y⟩)
/-- two of the lists are one: rotalaw.list says so -/
theorem thread_list {B : Nat} {W : World} (v : Later B W) (xs : List Int) (a b : Option Addr) (ca cb : Nat) {ls : List (Option Addr × List Int)} (hl : Lists v.val ls) (ha : (a, xs) ∈ ls) (hb : (b, xs) ∈ ls) (hlen : xs.length ≤ 4611686018427387904) :
    Calls Try.prog 17 #[.slice a xs.length ca, .int .i64 0, .slice b xs.length cb, .int .i64 0] v.val (Thread0 B W (.bool true) ls) :=
  thread0 v (c_list (Later.self v.val) xs xs a b ca cb 0 0 (hl _ ha) (hl _ hb) hlen rfl (by rw [if_pos rfl])) hl
/-- a call that hands back a matroid, threaded -/
def ThreadM (B : Nat) (W : World) (n : Int) (xs : List Int) (er : Int) (ls : List (Option Addr × List Int)) : Ending → World → Prop := fun e w' => ∃ (v' : Later B W) (ad : Option Addr) (cp : Nat), e = .returned (.tuple #[.agg #[.int .i64 n, .slice ad xs.length cp], .int .i64 er]) ∧ w' = v'.val ∧ Lists v'.val ((ad, xs) :: ls)
/-- a matroid and an error, in memory -/
def MatT (n : Int) (xs : List Int) (er : Int) (v : Value) (w : World) : Prop := ∃ v1, v = .tuple #[.agg #[.int .i64 n, v1], .int .i64 er] ∧ Reads w.heap.size w v1 xs
theorem MatT.no {e : Int} {w : World} : MatT 0 [] e (.tuple #[.agg #[.int .i64 0, .slice none 0 0], .int .i64 e]) w := ⟨_, rfl, Reads.nil _ _⟩
theorem threadM {P : Program} {f : FuncId} {args : Array Value} {B : Nat} {W : World} {n : Int} {xs : List Int} {er : Int} (v : Later B W) (h : Calls P f args v.val (RetP v.val.heap.size v.val (MatT n xs er))) {ls : List (Option Addr × List Int)} (hl : Lists v.val ls) : Calls P f args v.val (ThreadM B W n xs er ls) := h.mono (by
  rintro e _ ⟨_, rfl, ⟨_, rfl, ⟨ad, cp, rfl, hI, _⟩⟩, y, rfl⟩
  exact ⟨v.up y, ad, cp, rfl, rfl, (hl.later y).more hI⟩)
/-- a call that hands back a matroid alone, threaded -/
def ThreadA (B : Nat) (W : World) (n : Int) (xs : List Int) (ls : List (Option Addr × List Int)) : Ending → World → Prop := fun e w' => ∃ (v' : Later B W) (ad : Option Addr) (cp : Nat), e = .returned (.agg #[.int .i64 n, .slice ad xs.length cp]) ∧ w' = v'.val ∧ Lists v'.val ((ad, xs) :: ls)
theorem threadA {P : Program} {f : FuncId} {args : Array Value} {B : Nat} {W : World} {n : Int} {xs : List Int} (v : Later B W) (h : Calls P f args v.val (RetP v.val.heap.size v.val (MatV n xs))) {ls : List (Option Addr × List Int)} (hl : Lists v.val ls) : Calls P f args v.val (ThreadA B W n xs ls) := h.mono (by
  rintro e _ ⟨_, rfl, ⟨_, rfl, ⟨ad, cp, rfl, hI, _⟩⟩, y, rfl⟩
  exact ⟨v.up y, ad, cp, rfl, rfl, (hl.later y).more hI⟩)
/-- two lists are one matroid's bases: rotalaw.told says so -/
theorem thread_told {B : Nat} {W : World} (v : Later B W) (n : Int) (xs : List Int) (a b : Option Addr) (ca cb : Nat) {ls : List (Option Addr × List Int)} (hl : Lists v.val ls) (ha : (a, xs) ∈ ls) (hb : (b, xs) ∈ ls) (hlen : xs.length ≤ 4611686018427387904) :
    Calls Try.prog 16 #[.agg #[.int .i64 n, .slice a xs.length ca], .int .i64 0, .agg #[.int .i64 n, .slice b xs.length cb], .int .i64 0] v.val (Thread0 B W (.bool true) ls) :=
  thread0 v (c_told (Later.self v.val) n n xs xs a b ca cb 0 0 (hl _ ha) (hl _ hb) hlen rfl (by rw [if_pos rfl]; exact ⟨rfl, rfl⟩)) hl
theorem c_told_no {B : Nat} {W : World} (v : Later B W) (e : Int) (he : e ≠ 0) (a : Option Addr) (ca : Nat) :
    Calls Try.prog 16 #[.agg #[.int .i64 0, .slice a 0 ca], .int .i64 e, .agg #[.int .i64 0, .slice none 0 0], .int .i64 e] v.val (Ret B W (.bool true)) :=
  c_told v 0 0 [] [] a none ca 0 e e IntsAt.nil IntsAt.nil (Nat.zero_le _) rfl (by rw [if_neg he]; exact ⟨rfl, rfl⟩)
theorem c_list_no {B : Nat} {W : World} (v : Later B W) (e : Int) (he : e ≠ 0) (a : Option Addr) (ca : Nat) :
    Calls Try.prog 17 #[.slice a 0 ca, .int .i64 e, .slice none 0 0, .int .i64 e] v.val (Ret B W (.bool true)) :=
  c_list v [] [] a none ca 0 e e IntsAt.nil IntsAt.nil (Nat.zero_le _) rfl (by rw [if_neg he])

end Go.Proofs.Ytdcdhdlklppalaa

namespace Go.Proofs.Ytdcdhdlklppalaa
open Go.RowKit
set_option linter.unusedVariables false

/-- the first order that makes the one of the other -/
def isoF (n1 n2 : Nat) (l1 l2 : List Int) : Option (List Nat) := if n1 = n2 ∧ l1.length = l2.length then (ords n1 (toN l1) (toN l2)).head? else none
/-- what same.Isomorphic answers -/
def IsoAns (r : Option (List Nat)) (v : Value) (w : World) : Prop := (r = none ∧ v = .tuple #[.slice none 0 0, .int .i64 5]) ∨ ∃ q ad cp, r = some q ∧ v = .tuple #[.slice ad q.length cp, .int .i64 0] ∧ Reads w.heap.size w (.slice ad q.length cp) (ints q)

set_option maxRecDepth 100000 in
set_option maxHeartbeats 8000000 in
theorem c_sameIso_no {B : Nat} {W : World} (u : Later B W) (n1 n2 : Int) (l1 l2 : List Int) (a b : Option Addr) (cap capb : Nat) (h1 : IntsAt B W a l1) (h2 : IntsAt B W b l2) (hlen1 : l1.length ≤ 4611686018427387904) (hlen2 : l2.length ≤ 4611686018427387904) (e1 e2 er : Int) (he1 : MatIs n1 l1 e1) (he2 : MatIs n2 l2 e2) (hc : (e1 ≠ 0 ∧ er = e1) ∨ (e1 = 0 ∧ e2 ≠ 0 ∧ er = e2)) :
    Calls Try.prog 12 #[.agg #[.int .i64 n1, .slice a l1.length cap], .agg #[.int .i64 n2, .slice b l2.length capb]] u.val (Ret B W (.tuple #[.slice none 0 0, .int .i64 er])) := by
  have hs1 : (u.val.alloc (.cells #[.int .i64 n1, .slice a l1.length cap] 24)).heap.size = u.val.heap.size + 1 := by simp
  have HA : Hid (RowL ((u.val.alloc (.cells #[.int .i64 n1, .slice a l1.length cap] 24)).alloc (.cells #[.int .i64 n2, .slice b l2.length capb] 24)) u.val.heap.size 24 [.int .i64 n1, .slice a l1.length cap]) := Lib.hid ((RowL.new _ _ _).keep ((Below.refl _ _).alloc (Nat.le_refl _) _))
  have HB2 : Hid (RowL ((u.val.alloc (.cells #[.int .i64 n1, .slice a l1.length cap] 24)).alloc (.cells #[.int .i64 n2, .slice b l2.length capb] 24)) (u.val.heap.size + 1) 24 [.int .i64 n2, .slice b l2.length capb]) := Lib.hid (by
    have := RowL.new (u.val.alloc (.cells #[.int .i64 n1, .slice a l1.length cap] 24)) 24 [.int .i64 n2, .slice b l2.length capb]
    rwa [hs1] at this)
  have HVY : Hid (∀ v : Later ((u.val.alloc (.cells #[.int .i64 n1, .slice a l1.length cap] 24)).alloc (.cells #[.int .i64 n2, .slice b l2.length capb] 24)).heap.size ((u.val.alloc (.cells #[.int .i64 n1, .slice a l1.length cap] 24)).alloc (.cells #[.int .i64 n2, .slice b l2.length capb] 24)), ∃ w : Later B W, w.val = v.val) := Lib.hid (fun v => ⟨((u.alloc _).alloc _).up v, rfl⟩)
  have I1 : Hid (IntsAt ((u.val.alloc (.cells #[.int .i64 n1, .slice a l1.length cap] 24)).alloc (.cells #[.int .i64 n2, .slice b l2.length capb] 24)).heap.size ((u.val.alloc (.cells #[.int .i64 n1, .slice a l1.length cap] 24)).alloc (.cells #[.int .i64 n2, .slice b l2.length capb] 24)) a l1) := Lib.hid (h1.to ((u.alloc _).alloc _))
  have I2 : Hid (IntsAt ((u.val.alloc (.cells #[.int .i64 n1, .slice a l1.length cap] 24)).alloc (.cells #[.int .i64 n2, .slice b l2.length capb] 24)).heap.size ((u.val.alloc (.cells #[.int .i64 n1, .slice a l1.length cap] 24)).alloc (.cells #[.int .i64 n2, .slice b l2.length capb] 24)) b l2) := Lib.hid (h2.to ((u.alloc _).alloc _))
  obtain ⟨en, hen⟩ : ∃ en : Int → List Int → Int, ∀ n l, MatIs n l (en n l) := ⟨fun n l => Classical.choose (MatIs.ex n l), fun n l => Classical.choose_spec (MatIs.ex n l)⟩
  have uq : ∀ n l e, MatIs n l e → en n l = e := fun n l e h => by
    have h2 := hen n l
    by_cases c : okM n l
    · by_cases d : Exch (toN l)
      · rw [h.2.2 c d, h2.2.2 c d]
      · rw [h.2.1 c d, h2.2.1 c d]
    · rw [h.1 c, h2.1 c]
  have KC := Lib.hid (fun (v : Later ((u.val.alloc (.cells #[.int .i64 n1, .slice a l1.length cap] 24)).alloc (.cells #[.int .i64 n2, .slice b l2.length capb] 24)).heap.size ((u.val.alloc (.cells #[.int .i64 n1, .slice a l1.length cap] 24)).alloc (.cells #[.int .i64 n2, .slice b l2.length capb] 24))) (n' : Int) (l' : List Int) (a' : Option Addr) (c' : Nat) (h' : IntsAt ((u.val.alloc (.cells #[.int .i64 n1, .slice a l1.length cap] 24)).alloc (.cells #[.int .i64 n2, .slice b l2.length capb] 24)).heap.size ((u.val.alloc (.cells #[.int .i64 n1, .slice a l1.length cap] 24)).alloc (.cells #[.int .i64 n2, .slice b l2.length capb] 24)) a' l') (hl : l'.length ≤ 4611686018427387904) => c_axCheck v n' l' a' c' (en n' l') h' hl (hen n' l'))
  have E1 := uq _ _ _ he1
  have E2 := uq _ _ _ he2
  have HC := Lib.hid hc
  clear h1 h2 he1 he2 hs1 hc uq hen
  go_enter Try.func12, Try.ntmps12
  go_upto_region 1 with fail
  generalize ((u.val.alloc (.cells #[.int .i64 n1, .slice a l1.length cap] 24)).alloc (.cells #[.int .i64 n2, .slice b l2.length capb] 24)) = Y at *
  generalize u.val.heap.size = g at *
  obtain ⟨y, hy⟩ : ∃ y : Later Y.heap.size Y, y.val = Y := ⟨Later.self _, rfl⟩
  have q0 : ∀ w : Later Y.heap.size Y, w.val.cell? ⟨g, 0, none⟩ = some (.int .i64 n1) := fun w => (HA.out.keep w.below).cell rfl
  have q1 : ∀ w : Later Y.heap.size Y, w.val.cell? ⟨g, 1, none⟩ = some (.slice a l1.length cap) := fun w => (HA.out.keep w.below).cell rfl
  have q2 : ∀ w : Later Y.heap.size Y, w.val.cell? ⟨g + 1, 0, none⟩ = some (.int .i64 n2) := fun w => (HB2.out.keep w.below).cell rfl
  have q3 : ∀ w : Later Y.heap.size Y, w.val.cell? ⟨g + 1, 1, none⟩ = some (.slice b l2.length capb) := fun w => (HB2.out.keep w.below).cell rfl
  rw [← hy]
  clear hy
  refine wp_region_later y (by kernel_rfl) (by kernel_rfl) (fun _ => ?_)
  repeat (first | go_big_quiet_step ((go_at_call 33; exact KC.out _ _ _ _ _ (by first | exact I1.out | exact I2.out) (by first | exact hlen1 | exact hlen2))) | (refine wpQuiet_step (fun K hK => ?_); go_simp; refine ⟨_, fun _ => rfl, ?_⟩; refine hK _ ?_; clear hK K))
  refine wpQuiet_nil ?_
  intro y
  have z0 : ((0 : Int) != 0) = false := rfl
  rcases HC.out with ⟨g1, rfl⟩ | ⟨rfl, g1, rfl⟩
  · have d0 : (er != 0) = true := by rw [bne_iff_ne]; exact g1
    clear HC
    go_wp2
    go_ret2
    exact Ret.of (HVY.out y) (by first | rfl | (rw [E1]; rfl))
  · have d0 : (er != 0) = true := by rw [bne_iff_ne]; exact g1
    clear HC
    go_wp2
    go_ret2
    exact Ret.of (HVY.out y) (by first | rfl | (rw [E2]; rfl))

set_option maxRecDepth 100000 in
set_option maxHeartbeats 16000000 in
theorem c_sameIso {B : Nat} {W : World} (u : Later B W) (n1 n2 : Nat) (l1 l2 : List Int) (a b : Option Addr) (cap capb : Nat) (h1 : IntsAt B W a l1) (h2 : IntsAt B W b l2) (hlen1 : l1.length ≤ 4611686018427387904) (hlen2 : l2.length ≤ 4611686018427387904) (he1 : MatIs (n1 : Int) l1 0) (he2 : MatIs (n2 : Int) l2 0) :
    Calls Try.prog 12 #[.agg #[.int .i64 n1, .slice a l1.length cap], .agg #[.int .i64 n2, .slice b l2.length capb]] u.val (RetP B W (IsoAns (isoF n1 n2 l1 l2))) := by
  have hn1 : n1 ≤ 8 := by have := he1.ok.1.1.2.1; omega
  have hs1 : (u.val.alloc (.cells #[.int .i64 n1, .slice a l1.length cap] 24)).heap.size = u.val.heap.size + 1 := by simp
  have HA : Hid (RowL ((u.val.alloc (.cells #[.int .i64 n1, .slice a l1.length cap] 24)).alloc (.cells #[.int .i64 n2, .slice b l2.length capb] 24)) u.val.heap.size 24 [.int .i64 n1, .slice a l1.length cap]) := Lib.hid ((RowL.new _ _ _).keep ((Below.refl _ _).alloc (Nat.le_refl _) _))
  have HB2 : Hid (RowL ((u.val.alloc (.cells #[.int .i64 n1, .slice a l1.length cap] 24)).alloc (.cells #[.int .i64 n2, .slice b l2.length capb] 24)) (u.val.heap.size + 1) 24 [.int .i64 n2, .slice b l2.length capb]) := Lib.hid (by
    have := RowL.new (u.val.alloc (.cells #[.int .i64 n1, .slice a l1.length cap] 24)) 24 [.int .i64 n2, .slice b l2.length capb]
    rwa [hs1] at this)
  have HVY : Hid (∀ v : Later ((u.val.alloc (.cells #[.int .i64 n1, .slice a l1.length cap] 24)).alloc (.cells #[.int .i64 n2, .slice b l2.length capb] 24)).heap.size ((u.val.alloc (.cells #[.int .i64 n1, .slice a l1.length cap] 24)).alloc (.cells #[.int .i64 n2, .slice b l2.length capb] 24)), ∃ w : Later B W, w.val = v.val) := Lib.hid (fun v => ⟨((u.alloc _).alloc _).up v, rfl⟩)
  have I1 : Hid (IntsAt ((u.val.alloc (.cells #[.int .i64 n1, .slice a l1.length cap] 24)).alloc (.cells #[.int .i64 n2, .slice b l2.length capb] 24)).heap.size ((u.val.alloc (.cells #[.int .i64 n1, .slice a l1.length cap] 24)).alloc (.cells #[.int .i64 n2, .slice b l2.length capb] 24)) a l1) := Lib.hid (h1.to ((u.alloc _).alloc _))
  have I2 : Hid (IntsAt ((u.val.alloc (.cells #[.int .i64 n1, .slice a l1.length cap] 24)).alloc (.cells #[.int .i64 n2, .slice b l2.length capb] 24)).heap.size ((u.val.alloc (.cells #[.int .i64 n1, .slice a l1.length cap] 24)).alloc (.cells #[.int .i64 n2, .slice b l2.length capb] 24)) b l2) := Lib.hid (h2.to ((u.alloc _).alloc _))
  obtain ⟨en, hen⟩ : ∃ en : Int → List Int → Int, ∀ n l, MatIs n l (en n l) := ⟨fun n l => Classical.choose (MatIs.ex n l), fun n l => Classical.choose_spec (MatIs.ex n l)⟩
  have E1 : en n1 l1 = 0 := (hen n1 l1).2.2 he1.ok.1 he1.ok.2
  have E2 : en n2 l2 = 0 := (hen n2 l2).2.2 he2.ok.1 he2.ok.2
  have KC := Lib.hid (fun (v : Later ((u.val.alloc (.cells #[.int .i64 n1, .slice a l1.length cap] 24)).alloc (.cells #[.int .i64 n2, .slice b l2.length capb] 24)).heap.size ((u.val.alloc (.cells #[.int .i64 n1, .slice a l1.length cap] 24)).alloc (.cells #[.int .i64 n2, .slice b l2.length capb] 24))) (n' : Int) (l' : List Int) (a' : Option Addr) (c' : Nat) (h' : IntsAt ((u.val.alloc (.cells #[.int .i64 n1, .slice a l1.length cap] 24)).alloc (.cells #[.int .i64 n2, .slice b l2.length capb] 24)).heap.size ((u.val.alloc (.cells #[.int .i64 n1, .slice a l1.length cap] 24)).alloc (.cells #[.int .i64 n2, .slice b l2.length capb] 24)) a' l') (hl : l'.length ≤ 4611686018427387904) => c_axCheck v n' l' a' c' (en n' l') h' hl (hen n' l'))
  have HM1 := Lib.hid he1
  have HM2 := Lib.hid he2
  clear h1 h2 he1 he2 hs1 hen
  go_enter Try.func12, Try.ntmps12
  go_upto_region 1 with fail
  generalize ((u.val.alloc (.cells #[.int .i64 n1, .slice a l1.length cap] 24)).alloc (.cells #[.int .i64 n2, .slice b l2.length capb] 24)) = Y at *
  generalize u.val.heap.size = g at *
  obtain ⟨y, hy⟩ : ∃ y : Later Y.heap.size Y, y.val = Y := ⟨Later.self _, rfl⟩
  have q0 : ∀ w : Later Y.heap.size Y, w.val.cell? ⟨g, 0, none⟩ = some (.int .i64 n1) := fun w => (HA.out.keep w.below).cell rfl
  have q1 : ∀ w : Later Y.heap.size Y, w.val.cell? ⟨g, 1, none⟩ = some (.slice a l1.length cap) := fun w => (HA.out.keep w.below).cell rfl
  have q2 : ∀ w : Later Y.heap.size Y, w.val.cell? ⟨g + 1, 0, none⟩ = some (.int .i64 n2) := fun w => (HB2.out.keep w.below).cell rfl
  have q3 : ∀ w : Later Y.heap.size Y, w.val.cell? ⟨g + 1, 1, none⟩ = some (.slice b l2.length capb) := fun w => (HB2.out.keep w.below).cell rfl
  rw [← hy]
  clear hy
  refine wp_region_later y (by kernel_rfl) (by kernel_rfl) (fun _ => ?_)
  repeat (first | go_big_quiet_step ((go_at_call 33; exact KC.out _ _ _ _ _ (by first | exact I1.out | exact I2.out) (by first | exact hlen1 | exact hlen2))) | (refine wpQuiet_step (fun K hK => ?_); go_simp; refine ⟨_, fun _ => rfl, ?_⟩; refine hK _ ?_; clear hK K))
  refine wpQuiet_nil ?_
  intro y
  rw [E1, E2]
  clear KC HA HB2 u E1 E2 en
  have z0 : ((0 : Int) != 0) = false := rfl
  go_upto_region 8 with fail
  have hZs : ((y.val.alloc (.cells #[.slice none 0 0] 22)).alloc (.cells #[.bool false] 4)).heap.size = y.val.heap.size + 2 := by simp
  have R1 : Hid (RowAt1 ((y.val.alloc (.cells #[.slice none 0 0] 22)).alloc (.cells #[.bool false] 4)) y.val.heap.size 22 (.slice none 0 0)) := Lib.hid (row1_under (heap_alloc_new _ _) _)
  have R2 : Hid (RowAt1 ((y.val.alloc (.cells #[.slice none 0 0] 22)).alloc (.cells #[.bool false] 4)) (y.val.heap.size + 1) 4 (.bool false)) := Lib.hid (by
    have h := heap_alloc_new (y.val.alloc (.cells #[.slice none 0 0] 22)) (.cells #[.bool false] 4)
    rw [show (y.val.alloc (.cells #[.slice none 0 0] 22)).heap.size = y.val.heap.size + 1 by simp] at h
    exact h)
  obtain ⟨x, hx⟩ : ∃ x : Later Y.heap.size Y, x.val = ((y.val.alloc (.cells #[.slice none 0 0] 22)).alloc (.cells #[.bool false] 4)) := ⟨(y.alloc _).alloc _, rfl⟩
  have hys := y.size
  rw [← hx] at R1 R2 hZs ⊢
  clear hx
  generalize hbo : y.val.heap.size = bo at *
  clear hbo y
  have p0 := q0 x
  have p1 := q1 x
  have p2 := q2 x
  have p3 := q3 x
  by_cases hnn : n1 = n2
  case neg =>
    have d1 : ((n1 : Int) == (n2 : Int)) = false := by rw [beq_eq_false_iff_ne]; omega
    have HF : Hid (isoF n1 n2 l1 l2 = none) := Lib.hid (if_neg (fun h => hnn h.1))
    have c0 := R2.out.c0
    clear hnn
    go_wp2
    go_ret2
    exact RetP.of (HVY.out x) (.inl ⟨HF.out, rfl⟩)
  subst hnn
  have d1 : ((n1 : Int) == (n1 : Int)) = true := by simp
  by_cases hll : l1.length = l2.length
  case neg =>
    have d2 : ((l1.length : Int) == (l2.length : Int)) = false := by rw [beq_eq_false_iff_ne]; omega
    have d3 : (l1.length == l2.length) = false := by rw [beq_eq_false_iff_ne]; exact hll
    have HF : Hid (isoF n1 n1 l1 l2 = none) := Lib.hid (if_neg (fun h => hll h.2))
    have c0 := R2.out.c0
    clear hll
    go_wp2
    go_ret2
    exact RetP.of (HVY.out x) (.inl ⟨HF.out, rfl⟩)
  have HF : Hid (isoF n1 n1 l1 l2 = (ords n1 (toN l1) (toN l2)).head?) := Lib.hid (if_pos ⟨rfl, hll⟩)
  have K := Lib.hid (c_each (Later.self x.val) n1 hn1 l1 l2 a b cap capb (I1.out.to x) (I2.out.to x) hlen1 hlen2 HM1.out HM2.out (fun k => k = bo ∨ k = bo + 1) (fun k hk => by have := hZs; show k < x.val.heap.size; omega) false 37 #[.pointer (some ⟨bo, 0, none⟩), .pointer (some ⟨bo + 1, 0, none⟩)] (IsoI bo (bo + 1))
    (fun bp W' h1 h2 h3 => iso_do W'.heap.size bp W' n1 bo (bo + 1) hn1 h2 (by have := hZs; have : x.val.heap.size ≤ bp := h1; omega) (by have := hZs; have : x.val.heap.size ≤ bp := h1; omega) (by omega))
    (fun bp w h1 h2 => ⟨(fun g hg => by cases hg), fun _ => ⟨R1.out.keep h2, R2.out.keep h2⟩, (fun q l' h => by cases h)⟩))
  have d2 : ((l1.length : Int) == (l2.length : Int)) = true := by rw [beq_iff_eq]; omega
  have d3 : (l1.length == l2.length) = true := by rw [beq_iff_eq]; exact hll
  have hp1 : ∀ (args : Array Value) (w : World), (callFunc 37 args).run Try.prog w = .ok (.enter 37 args) w := fun _ _ => by kernel_rfl
  have HVX : Hid (∀ v : Off x.val.heap.size (fun k => k = bo ∨ k = bo + 1) x.val, ∃ w : Later B W, w.val = v.val) := Lib.hid (fun v => by
    have hb := v.below (B0 := Y.heap.size) x.size (fun k hk => by omega)
    obtain ⟨w, hw⟩ := HVY.out (x.to v.val hb)
    exact ⟨w, hw⟩)
  have hll2 := Lib.hid hll
  clear I1 I2 HM1 HM2 R1 R2 hll
  generalize ords n1 (toN l1) (toN l2) = F at *
  dsimp only [Later.self] at K
  cases F with
  | nil =>
    have K2 : Hid (Calls Try.prog 36 #[.agg #[.int .i64 n1, .slice a l1.length cap], .agg #[.int .i64 n1, .slice b l2.length capb], .func (.func 37) #[] #[.pointer (some ⟨bo, 0, none⟩), .pointer (some ⟨bo + 1, 0, none⟩)]] x.val (fun e w' => e = .returned (.tuple #[]) ∧ ∃ v' : Off x.val.heap.size (fun k => k = bo ∨ k = bo + 1) x.val, w' = v'.val ∧ v'.val.cell? ⟨bo + 1, 0, none⟩ = some (.bool false))) := Lib.hid (K.out.mono (by
      rintro e _ ⟨rfl, v', rfl, bp, o, hbp, hI⟩
      exact ⟨rfl, v', rfl, (hI.no rfl).2.c0⟩))
    clear K
    go_wp2_with (first | (go_at_call 36; (with_reducible refine (K2.out).mono ?_); rintro e _ ⟨rfl, v', rfl, c0⟩) | fail)
    go_ret2
    exact RetP.of (HVX.out v') (.inl ⟨HF.out, rfl⟩)
  | cons q F' =>
    have K2 : Hid (Calls Try.prog 36 #[.agg #[.int .i64 n1, .slice a l1.length cap], .agg #[.int .i64 n1, .slice b l2.length capb], .func (.func 37) #[] #[.pointer (some ⟨bo, 0, none⟩), .pointer (some ⟨bo + 1, 0, none⟩)]] x.val (fun e w' => e = .returned (.tuple #[]) ∧ ∃ v' : Off x.val.heap.size (fun k => k = bo ∨ k = bo + 1) x.val, w' = v'.val ∧ v'.val.cell? ⟨bo + 1, 0, none⟩ = some (.bool true) ∧ ∃ ar cr, v'.val.cell? ⟨bo, 0, none⟩ = some (.slice ar q.length cr) ∧ Reads v'.val.heap.size v'.val (.slice ar q.length cr) (ints q))) := Lib.hid (K.out.mono (by
      rintro e _ ⟨rfl, v', rfl, bp, o, hbp, hI⟩
      obtain ⟨ar, cr, h1, h2, h3⟩ := hI.yes q [] rfl
      refine ⟨rfl, v', rfl, h3.c0, ar, cr, h1.c0, ?_⟩
      have := Reads.mk h2.ints h2.nil
      rwa [ints_len] at this))
    clear K
    go_wp2_with (first | (go_at_call 36; (with_reducible refine (K2.out).mono ?_); rintro e _ ⟨rfl, v', rfl, c0, ar, cr, c1, hR⟩; have HR := Lib.hid hR; clear hR) | fail)
    go_ret2
    exact RetP.of (HVX.out v') (.inr ⟨q, ar, cr, HF.out, rfl, HR.out⟩)
end Go.Proofs.Ytdcdhdlklppalaa
