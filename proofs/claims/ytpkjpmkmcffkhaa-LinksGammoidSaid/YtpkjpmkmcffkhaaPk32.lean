
/-
  Lists that a law holds while it goes on calling: one bundle, threaded through the calls.
  rotalaw.LinksGammoid returns true, whatever it is handed.
-/
import Derived.Test.YtpkjpmkmcffkhaaPk07
import Derived.Test.YtpkjpmkmcffkhaaPk22
import Derived.Test.YtpkjpmkmcffkhaaPk08
import Derived.Test.YtpkjpmkmcffkhaaPk31
namespace Go.Proofs.Ytpkjpmkmcffkhaa
open Go.RowKit
set_option linter.unusedVariables false

/-- all these lists read in w -/
def Lists (w : World) (ls : List (Option Addr × List Int)) : Prop := ∀ p, p ∈ ls → IntsAt w.heap.size w p.1 p.2
theorem Lists.nil (w : World) : Lists w [] := fun p hp => by cases hp
theorem Lists.later {w : World} {ls : List (Option Addr × List Int)} (h : Lists w ls) (v : Later w.heap.size w) : Lists v.val ls := fun p hp => (h p hp).to v
theorem Lists.more {w : World} {ls : List (Option Addr × List Int)} (h : Lists w ls) {ad : Option Addr} {xs : List Int} (hx : IntsAt w.heap.size w ad xs) : Lists w ((ad, xs) :: ls) := fun p hp => by
  rcases List.mem_cons.1 hp with rfl | hp
  · exact hx
  · exact h p hp
/-- a call that hands back a list, threaded -/
def ThreadL (B : Nat) (W : World) (xs : List Int) (ls : List (Option Addr × List Int)) : Ending → World → Prop := fun e w' => ∃ (v' : Later B W) (ad : Option Addr) (cp : Nat), e = .returned (.slice ad xs.length cp) ∧ w' = v'.val ∧ Lists v'.val ((ad, xs) :: ls)
theorem threadL {P : Program} {f : FuncId} {args : Array Value} {B : Nat} {W : World} {xs : List Int} (v : Later B W) (h : Calls P f args v.val (RetInts v.val.heap.size v.val xs)) {ls : List (Option Addr × List Int)} (hl : Lists v.val ls) : Calls P f args v.val (ThreadL B W xs ls) := h.mono (by
  rintro e _ ⟨_, rfl, ⟨ad, cp, rfl, hI, _⟩, y, rfl⟩
  exact ⟨v.up y, ad, cp, rfl, rfl, (hl.later y).more hI⟩)
/-- a call that hands back a list and an error, threaded -/
def ThreadE (B : Nat) (W : World) (xs : List Int) (er : Int) (ls : List (Option Addr × List Int)) : Ending → World → Prop := fun e w' => ∃ (v' : Later B W) (ad : Option Addr) (cp : Nat), e = .returned (.tuple #[.slice ad xs.length cp, .int .i64 er]) ∧ w' = v'.val ∧ Lists v'.val ((ad, xs) :: ls)
theorem threadE {P : Program} {f : FuncId} {args : Array Value} {B : Nat} {W : World} {xs : List Int} {er : Int} (v : Later B W) (h : Calls P f args v.val (RetP v.val.heap.size v.val (ListE xs er))) {ls : List (Option Addr × List Int)} (hl : Lists v.val ls) : Calls P f args v.val (ThreadE B W xs er ls) := h.mono (by
  rintro e _ ⟨_, rfl, ⟨_, rfl, ⟨ad, cp, rfl, hI, _⟩⟩, y, rfl⟩
  exact ⟨v.up y, ad, cp, rfl, rfl, (hl.later y).more hI⟩)
/-- a call that hands back a value, threaded -/
def Thread0 (B : Nat) (W : World) (x : Value) (ls : List (Option Addr × List Int)) : Ending → World → Prop := fun e w' => ∃ v' : Later B W, e = .returned x ∧ w' = v'.val ∧ Lists v'.val ls
theorem thread0 {P : Program} {f : FuncId} {args : Array Value} {B : Nat} {W : World} {x : Value} (v : Later B W) (h : Calls P f args v.val (Ret v.val.heap.size v.val x)) {ls : List (Option Addr × List Int)} (hl : Lists v.val ls) : Calls P f args v.val (Thread0 B W x ls) := h.mono (by
  rintro e _ ⟨rfl, y, rfl⟩
  exact ⟨v.up y, rfl, rfl, hl.later y⟩)
/-- two of the lists are one: rotalaw.list says so -/
theorem thread_list {B : Nat} {W : World} (v : Later B W) (xs : List Int) (a b : Option Addr) (ca cb : Nat) {ls : List (Option Addr × List Int)} (hl : Lists v.val ls) (ha : (a, xs) ∈ ls) (hb : (b, xs) ∈ ls) (hlen : xs.length ≤ 4611686018427387904) :
    Calls Try.prog 13 #[.slice a xs.length ca, .int .i64 0, .slice b xs.length cb, .int .i64 0] v.val (Thread0 B W (.bool true) ls) :=
  thread0 v (c_list (Later.self v.val) xs xs a b ca cb 0 0 (hl _ ha) (hl _ hb) hlen rfl (by rw [if_pos rfl])) hl
/-- a call that hands back a matroid, threaded -/
def ThreadM (B : Nat) (W : World) (n : Int) (xs : List Int) (er : Int) (ls : List (Option Addr × List Int)) : Ending → World → Prop := fun e w' => ∃ (v' : Later B W) (ad : Option Addr) (cp : Nat), e = .returned (.tuple #[.agg #[.int .i64 n, .slice ad xs.length cp], .int .i64 er]) ∧ w' = v'.val ∧ Lists v'.val ((ad, xs) :: ls)
/-- a matroid and an error, in memory -/
def MatT (n : Int) (xs : List Int) (er : Int) (v : Value) (w : World) : Prop := ∃ v1, v = .tuple #[.agg #[.int .i64 n, v1], .int .i64 er] ∧ Reads w.heap.size w v1 xs
theorem MatT.no {e : Int} {w : World} : MatT 0 [] e (.tuple #[.agg #[.int .i64 0, .slice none 0 0], .int .i64 e]) w := ⟨_, rfl, Reads.nil _ _⟩
theorem threadM {P : Program} {f : FuncId} {args : Array Value} {B : Nat} {W : World} {n : Int} {xs : List Int} {er : Int} (v : Later B W) (h : Calls P f args v.val (RetP v.val.heap.size v.val (MatT n xs er))) {ls : List (Option Addr × List Int)} (hl : Lists v.val ls) : Calls P f args v.val (ThreadM B W n xs er ls) := h.mono (by
  rintro e _ ⟨_, rfl, ⟨_, rfl, ⟨ad, cp, rfl, hI, _⟩⟩, y, rfl⟩
  exact ⟨v.up y, ad, cp, rfl, rfl, (hl.later y).more hI⟩)
/-- a call that hands back a matroid alone, threaded -/
def ThreadA (B : Nat) (W : World) (n : Int) (xs : List Int) (ls : List (Option Addr × List Int)) : Ending → World → Prop := fun e w' => ∃ (v' : Later B W) (ad : Option Addr) (cp : Nat), e = .returned (.agg #[.int .i64 n, .slice ad xs.length cp]) ∧ w' = v'.val ∧ Lists v'.val ((ad, xs) :: ls)
theorem threadA {P : Program} {f : FuncId} {args : Array Value} {B : Nat} {W : World} {n : Int} {xs : List Int} (v : Later B W) (h : Calls P f args v.val (RetP v.val.heap.size v.val (MatV n xs))) {ls : List (Option Addr × List Int)} (hl : Lists v.val ls) : Calls P f args v.val (ThreadA B W n xs ls) := h.mono (by
  rintro e _ ⟨_, rfl, ⟨_, rfl, ⟨ad, cp, rfl, hI, _⟩⟩, y, rfl⟩
  exact ⟨v.up y, ad, cp, rfl, rfl, (hl.later y).more hI⟩)
/-- two lists are one matroid's bases: rotalaw.told says so -/
theorem thread_told {B : Nat} {W : World} (v : Later B W) (n : Int) (xs : List Int) (a b : Option Addr) (ca cb : Nat) {ls : List (Option Addr × List Int)} (hl : Lists v.val ls) (ha : (a, xs) ∈ ls) (hb : (b, xs) ∈ ls) (hlen : xs.length ≤ 4611686018427387904) :
    Calls Try.prog 12 #[.agg #[.int .i64 n, .slice a xs.length ca], .int .i64 0, .agg #[.int .i64 n, .slice b xs.length cb], .int .i64 0] v.val (Thread0 B W (.bool true) ls) :=
  thread0 v (c_told (Later.self v.val) n n xs xs a b ca cb 0 0 (hl _ ha) (hl _ hb) hlen rfl (by rw [if_pos rfl]; exact ⟨rfl, rfl⟩)) hl
theorem c_told_no {B : Nat} {W : World} (v : Later B W) (e : Int) (he : e ≠ 0) (a : Option Addr) (ca : Nat) :
    Calls Try.prog 12 #[.agg #[.int .i64 0, .slice a 0 ca], .int .i64 e, .agg #[.int .i64 0, .slice none 0 0], .int .i64 e] v.val (Ret B W (.bool true)) :=
  c_told v 0 0 [] [] a none ca 0 e e IntsAt.nil IntsAt.nil (Nat.zero_le _) rfl (by rw [if_neg he]; exact ⟨rfl, rfl⟩)
theorem c_list_no {B : Nat} {W : World} (v : Later B W) (e : Int) (he : e ≠ 0) (a : Option Addr) (ca : Nat) :
    Calls Try.prog 13 #[.slice a 0 ca, .int .i64 e, .slice none 0 0, .int .i64 e] v.val (Ret B W (.bool true)) :=
  c_list v [] [] a none ca 0 e e IntsAt.nil IntsAt.nil (Nat.zero_le _) rfl (by rw [if_neg he])

end Go.Proofs.Ytpkjpmkmcffkhaa

namespace Go.Proofs.Ytpkjpmkmcffkhaa
open Go.RowKit
set_option linter.unusedVariables false

theorem isSet_bit {n t : Int} (h0 : 0 ≤ n) (h8 : n ≤ 8) : isSet n t ↔ 0 ≤ t ∧ t < bit n.toNat := by
  obtain ⟨m, rfl⟩ := Int.eq_ofNat_of_zero_le h0
  have hb := bit_le m (by omega)
  unfold isSet
  rw [all_nat, show ((m : Int)).toNat = m by omega]
  omega

set_option maxRecDepth 100000 in
set_option maxHeartbeats 20000000 in
theorem law_gam_no {B : Nat} {W : World} (u : Later B W) (n t : Int) (es : List (Int × Int)) (a : Option Addr) (cap : Nat) (h : EdgesAt B W a es) (hlen : es.length ≤ 4611686018427387904) (hN : ¬ lkOk n es [t]) :
    Calls Try.prog 3 #[.agg #[.int .i64 n, .slice a es.length cap], .int .i64 t] u.val (Ret B W (.bool true)) := by
  have T0 : Hid (Two (u.val.alloc (.cells #[.int .i64 n, .slice a es.length cap] 24)) u.val.heap.size 24 (.int .i64 n) (.slice a es.length cap)) := Lib.hid (Two.new _ _ _ _)
  have HE : Hid (EdgesAt (u.val.alloc (.cells #[.int .i64 n, .slice a es.length cap] 24)).heap.size (u.val.alloc (.cells #[.int .i64 n, .slice a es.length cap] 24)) a es) := Lib.hid (h.to (u.alloc _))
  have HV : Hid (∀ v : Later (u.val.alloc (.cells #[.int .i64 n, .slice a es.length cap] 24)).heap.size (u.val.alloc (.cells #[.int .i64 n, .slice a es.length cap] 24)), ∃ w : Later B W, w.val = v.val) := Lib.hid (fun v => ⟨(u.alloc _).up v, rfl⟩)
  have he1 := Lib.hid (show errno (decide (lkOk n es [t])) 1 = 1 by rw [decide_eq_false hN]; rfl)
  have HAb : Hid (∀ (m s : Nat), n = (m : Int) → t = (s : Int) → isGraph (m : Int) es → s < bit m → False) := Lib.hid (fun m s e1 e2 hg hs => hN (lk_one.2 ⟨by rw [e1]; exact hg, by rw [e2]; omega, by rw [e1, e2, show ((m : Int)).toNat = m by omega]; omega⟩))
  have HNn := Lib.hid hN
  clear h hN
  go_enter Try.func3, Try.ntmps3
  go_upto_region 1 with fail
  generalize (u.val.alloc (.cells #[.int .i64 n, .slice a es.length cap] 24)) = W1 at *
  generalize u.val.heap.size = g0 at *
  clear u
  have q0 : ∀ w : Later W1.heap.size W1, w.val.cell? ⟨g0, 0, none⟩ = some (.int .i64 n) := fun w => (T0.out.keep w.below).c0
  have q1 : ∀ w : Later W1.heap.size W1, w.val.cell? ⟨g0, 1, none⟩ = some (.slice a es.length cap) := fun w => (T0.out.keep w.below).c1
  have KG := Lib.hid (fun w : Later W1.heap.size W1 => c_isGraph w n es a cap HE.out hlen)
  have KS := Lib.hid (fun w : Later W1.heap.size W1 => c_isSet w n t)
  have KBf := Lib.hid (fun w : Later W1.heap.size W1 => (show Calls Try.prog 5 #[.bool false, .int .i64 1] w.val (Ret W1.heap.size W1 (.int .i64 1)) from c_bad w false 1))
  obtain ⟨z, hzz⟩ : ∃ z : Later W1.heap.size W1, z.val = W1 := ⟨Later.self _, rfl⟩
  rw [← hzz]
  clear hzz
  have q0z := q0 z
  have q1z := q1 z
  have key : ∃ bg bs : Bool, decide (isGraph n es) = bg ∧ decide (isSet n t) = bs ∧ (bg && bs) = false := by
    by_cases hg : isGraph n es
    · by_cases hs : isSet n t
      · exact absurd (lk_one.2 ⟨hg, (isSet_bit (by have := hg.1; omega) (by have := hg.2.1; omega)).1 hs⟩) HNn.out
      · exact ⟨true, false, decide_eq_true hg, decide_eq_false hs, rfl⟩
    · exact ⟨false, _, decide_eq_false hg, rfl, rfl⟩
  obtain ⟨bg, bs, e1, e2, e3⟩ := key
  rw [e1] at KG
  rw [e2] at KS
  clear e1 e2 HNn
  cases bg <;> cases bs
  case true.true => cases e3
  all_goals
    clear e3
    go_upto_region 2 with (first | (go_at_call 6; (with_reducible refine (KG.out z).mono ?_); rintro e _ ⟨rfl, v1, rfl⟩) | (go_at_call 7; (with_reducible refine (KS.out v1).mono ?_); rintro e _ ⟨rfl, v2, rfl⟩) | (go_at_call 5; (with_reducible refine (KBf.out _).mono ?_); rintro e _ ⟨rfl, v3, rfl⟩))
    clear q0z q1z z
    have hv3 := v3.size
    have R5 : Hid (RowL (v3.val.alloc (.cells #[.int .i64 0, .slice none 0 0] 31)) v3.val.heap.size 31 [.int .i64 0, .slice none 0 0]) := Lib.hid (RowL.new _ _ _)
    have hgm : v3.val.heap.size < (v3.val.alloc (.cells #[.int .i64 0, .slice none 0 0] 31)).heap.size := by simp
    go_upto_region 4 with fail
    obtain ⟨z, hz⟩ : ∃ z : Later W1.heap.size W1, z.val = (v3.val.alloc (.cells #[.int .i64 0, .slice none 0 0] 31)) := ⟨v3.alloc _, rfl⟩
    rw [← hz] at R5 hgm ⊢
    generalize v3.val.heap.size = gm at *
    clear hz
    have F0 : ∀ w : Later z.val.heap.size z.val, w.val.cell? ⟨gm, 0, none⟩ = some (.int .i64 0) := fun w => (R5.out.keep w.below).cell rfl
    have F1 : ∀ w : Later z.val.heap.size z.val, w.val.cell? ⟨gm, 1, none⟩ = some (.slice none 0 0) := fun w => (R5.out.keep w.below).cell rfl
    have q0z := q0 z
    have q1z := q1 z
    go_upto_region 19 with fail
    have KL := Lib.hid (c_linksGam (Later.self z.val) n t es a cap 1 0 [] (HE.out.to z) hlen he1.out.symm (fun _ => ⟨rfl, rfl⟩) (fun m s e1 e2 hg hs => (HAb.out m s e1 e2 hg hs).elim))
    dsimp only [Later.self] at KL
    go_upto_region 20 with (first | (go_at_call 10; (with_reducible refine (KL.out).mono ?_); rintro e _ ⟨_, rfl, ⟨adG, cpG, rfl, hOG⟩, y1, rfl⟩))
    clear hOG KL q0z q1z
    have R6 : Hid (RowL (y1.val.alloc (.cells #[.int .i64 0, .slice adG 0 cpG] 31)) y1.val.heap.size 31 [.int .i64 0, .slice adG 0 cpG]) := Lib.hid (RowL.new _ _ _)
    have hgk : y1.val.heap.size < (y1.val.alloc (.cells #[.int .i64 0, .slice adG 0 cpG] 31)).heap.size := by simp
    obtain ⟨x, hx⟩ : ∃ x : Later z.val.heap.size z.val, x.val = (y1.val.alloc (.cells #[.int .i64 0, .slice adG 0 cpG] 31)) := ⟨y1.alloc _, rfl⟩
    rw [← hx] at R6 hgk
    have G0 : ∀ w : Later x.val.heap.size x.val, w.val.cell? ⟨y1.val.heap.size, 0, none⟩ = some (.int .i64 0) := fun w => (R6.out.keep w.below).cell rfl
    have G1 : ∀ w : Later x.val.heap.size x.val, w.val.cell? ⟨y1.val.heap.size, 1, none⟩ = some (.slice adG 0 cpG) := fun w => (R6.out.keep w.below).cell rfl
    have D0 : ∀ w : Later x.val.heap.size x.val, w.val.cell? ⟨gm, 0, none⟩ = some (.int .i64 0) := fun w => F0 (x.up w)
    have D1 : ∀ w : Later x.val.heap.size x.val, w.val.cell? ⟨gm, 1, none⟩ = some (.slice none 0 0) := fun w => F1 (x.up w)
    have q0x : x.val.cell? ⟨g0, 0, none⟩ = some (.int .i64 n) := q0 (z.up x)
    have q1x : x.val.cell? ⟨g0, 1, none⟩ = some (.slice a es.length cap) := q1 (z.up x)
    have KT := Lib.hid (c_linksSets (Later.self x.val) n t es a cap 1 [] (HE.out.to (z.up x)) hlen he1.out.symm (fun _ => rfl) (fun m s e1 e2 hg hs => (HAb.out m s e1 e2 hg hs).elim))
    dsimp only [Later.self] at KT
    have KO := Lib.hid (fun w : Later x.val.heap.size x.val => c_told_no w 1 (by decide) adG cpG)
    have KP := Lib.hid (fun (w : Later x.val.heap.size x.val) (b : Option Addr) (cb : Nat) => c_list_no w 1 (by decide) b cb)
    first | rw [← hx] | simp only [← hx]
    clear hx F0 F1
    generalize y1.val.heap.size = gk at *
    go_wp2_with (first | (go_at_call 11; (with_reducible refine (KT.out).mono ?_); rintro e _ ⟨_, rfl, ⟨_, rfl, ⟨adS, cpS, rfl, hIS, hcS⟩⟩, x1, rfl⟩) | (go_at_call 12; (with_reducible refine (KO.out _).mono ?_); rintro e _ ⟨rfl, x2, rfl⟩) | (go_at_call 13; (with_reducible refine (KP.out _ _ _).mono ?_); rintro e _ ⟨rfl, x3, rfl⟩) | fail)
    go_ret
    obtain ⟨w, hw⟩ := HV.out ((z.up x).up x3)
    exact Ret.of ⟨w, hw⟩ rfl


theorem c_told_yes {B : Nat} {W : World} (v : Later B W) (n : Int) (xs : List Int) (a b : Option Addr) (ca cb : Nat) (ha : IntsAt B W a xs) (hb : IntsAt B W b xs) (hlen : xs.length ≤ 4611686018427387904) :
    Calls Try.prog 12 #[.agg #[.int .i64 n, .slice a xs.length ca], .int .i64 0, .agg #[.int .i64 n, .slice b xs.length cb], .int .i64 0] v.val (Ret B W (.bool true)) :=
  c_told v n n xs xs a b ca cb 0 0 ha hb hlen rfl (by rw [if_pos rfl]; exact ⟨rfl, rfl⟩)
theorem c_list_yes {B : Nat} {W : World} (v : Later B W) (xs : List Int) (a b : Option Addr) (ca cb : Nat) (ha : IntsAt B W a xs) (hb : IntsAt B W b xs) (hlen : xs.length ≤ 4611686018427387904) :
    Calls Try.prog 13 #[.slice a xs.length ca, .int .i64 0, .slice b xs.length cb, .int .i64 0] v.val (Ret B W (.bool true)) :=
  c_list v xs xs a b ca cb 0 0 ha hb hlen rfl (by rw [if_pos rfl])

set_option maxRecDepth 100000 in
set_option maxHeartbeats 20000000 in
theorem law_gam_yes {B : Nat} {W : World} (u : Later B W) (m s0 : Nat) (es : List (Int × Int)) (a : Option Addr) (cap : Nat) (h : EdgesAt B W a es) (hG : isGraph (m : Int) es) (hs0 : s0 < bit m) :
    Calls Try.prog 3 #[.agg #[.int .i64 m, .slice a es.length cap], .int .i64 s0] u.val (Ret B W (.bool true)) := by
  have hlen : es.length ≤ 4611686018427387904 := by have := hG.2.2.1; omega
  have hm7 : m ≤ 7 := by have := hG.2.1; omega
  have hb := bit_le m (by omega)
  have T0 : Hid (Two (u.val.alloc (.cells #[.int .i64 m, .slice a es.length cap] 24)) u.val.heap.size 24 (.int .i64 m) (.slice a es.length cap)) := Lib.hid (Two.new _ _ _ _)
  have HE : Hid (EdgesAt (u.val.alloc (.cells #[.int .i64 m, .slice a es.length cap] 24)).heap.size (u.val.alloc (.cells #[.int .i64 m, .slice a es.length cap] 24)) a es) := Lib.hid (h.to (u.alloc _))
  have HV : Hid (∀ v : Later (u.val.alloc (.cells #[.int .i64 m, .slice a es.length cap] 24)).heap.size (u.val.alloc (.cells #[.int .i64 m, .slice a es.length cap] 24)), ∃ w : Later B W, w.val = v.val) := Lib.hid (fun v => ⟨(u.alloc _).up v, rfl⟩)
  have hok : lkOk (m : Int) es [(s0 : Int)] := lk_one.2 ⟨hG, by omega, by rw [show ((m : Int)).toNat = m by omega]; omega⟩
  have he1 := Lib.hid (show errno (decide (lkOk (m : Int) es [(s0 : Int)])) 1 = 0 by rw [decide_eq_true hok]; rfl)
  have HG := Lib.hid (Grf.of hG)
  have HGi := Lib.hid hG
  clear h hok hG
  go_enter Try.func3, Try.ntmps3
  go_upto_region 1 with fail
  generalize (u.val.alloc (.cells #[.int .i64 m, .slice a es.length cap] 24)) = W1 at *
  generalize u.val.heap.size = g0 at *
  clear u
  have q0 : ∀ w : Later W1.heap.size W1, w.val.cell? ⟨g0, 0, none⟩ = some (.int .i64 m) := fun w => (T0.out.keep w.below).c0
  have q1 : ∀ w : Later W1.heap.size W1, w.val.cell? ⟨g0, 1, none⟩ = some (.slice a es.length cap) := fun w => (T0.out.keep w.below).c1
  have KG := Lib.hid (fun w : Later W1.heap.size W1 => dcall_t (c_isGraph w m es a cap HE.out hlen) HGi.out)
  have KS := Lib.hid (fun w : Later W1.heap.size W1 => dcall_t (c_isSet w m s0) ((isSet_bit (by omega) (by omega)).2 ⟨by omega, by rw [show ((m : Int)).toNat = m by omega]; omega⟩))
  have KBf := Lib.hid (fun w : Later W1.heap.size W1 => (show Calls Try.prog 5 #[.bool true, .int .i64 1] w.val (Ret W1.heap.size W1 (.int .i64 0)) from c_bad w true 1))
  obtain ⟨z, hzz⟩ : ∃ z : Later W1.heap.size W1, z.val = W1 := ⟨Later.self _, rfl⟩
  rw [← hzz]
  clear hzz
  have q0z := q0 z
  have q1z := q1 z
  go_upto_region 2 with (first | (go_at_call 6; (with_reducible refine (KG.out z).mono ?_); rintro e _ ⟨rfl, v1, rfl⟩) | (go_at_call 7; (with_reducible refine (KS.out v1).mono ?_); rintro e _ ⟨rfl, v2, rfl⟩) | (go_at_call 5; (with_reducible refine (KBf.out _).mono ?_); rintro e _ ⟨rfl, v3, rfl⟩))
  clear q0z q1z z KG KS KBf
  have hv3 := v3.size
  have R5 : Hid (RowL (v3.val.alloc (.cells #[.int .i64 0, .slice none 0 0] 31)) v3.val.heap.size 31 [.int .i64 0, .slice none 0 0]) := Lib.hid (RowL.new _ _ _)
  have hgm : v3.val.heap.size < (v3.val.alloc (.cells #[.int .i64 0, .slice none 0 0] 31)).heap.size := by simp
  go_upto_region 4 with fail
  obtain ⟨z, hz⟩ : ∃ z : Later W1.heap.size W1, z.val = (v3.val.alloc (.cells #[.int .i64 0, .slice none 0 0] 31)) := ⟨v3.alloc _, rfl⟩
  rw [← hz] at R5 hgm ⊢
  generalize v3.val.heap.size = gm at *
  clear hz
  have q0z := q0 z
  have q1z := q1 z
  have f0 : ∀ (w : Later z.val.heap.size z.val), w.val.cell? ⟨gm, 0, none⟩ = some (.int .i64 0) := fun w => (R5.out.keep_at w.below hgm).cell rfl
  have z0 : ∀ (w : Later z.val.heap.size z.val), w.val.frozen? ⟨gm, 0, none⟩ = false := fun w => (R5.out.keep_at w.below hgm).fz 0
  have f1 : ∀ (w : Later z.val.heap.size z.val) (x0 : Value), (w.val.setCell ⟨gm, 0, none⟩ x0).cell? ⟨gm, 1, none⟩ = some (.slice none 0 0) := fun w x0 => ((R5.out.keep_at w.below hgm).set 0 x0).cell rfl
  have z1 : ∀ (w : Later z.val.heap.size z.val) (x0 : Value), (w.val.setCell ⟨gm, 0, none⟩ x0).frozen? ⟨gm, 1, none⟩ = false := fun w x0 => ((R5.out.keep_at w.below hgm).set 0 x0).fz 1
  have KR := Lib.hid (c_refGammoid (Later.self z.val) m s0 es a cap (HE.out.to z) HGi.out hs0)
  dsimp only [Later.self] at KR
  generalize hA : ints (those m (gamB m es s0)) = A at *
  have HA := Lib.hid hA
  have HAl : Hid (A.length ≤ 256) := Lib.hid (by
    rw [← hA, ints_len]
    have := thoseTo_len (gamB m es s0) (bit m)
    have e : those m (gamB m es s0) = thoseTo (gamB m es s0) (bit m) := rfl
    rw [e]; omega)
  clear hA
  go_upto_region 6 with (first | (go_at_call 8; (with_reducible refine (KR.out).mono ?_); rintro e _ ⟨_, rfl, ⟨adR, cpR, rfl, hOR⟩, y1, rfl⟩))
  have hy1 := y1.size
  have R6 : Hid (RowL ((y1.val.setCell ⟨gm, 0, none⟩ (.int .i64 m)).setCell ⟨gm, 1, none⟩ (.slice adR A.length cpR)) gm 31 [.int .i64 m, .slice adR A.length cpR]) := Lib.hid (((R5.out.keep y1.below).set 0 _).set 1 _)
  have HIR : Hid (Own z.val.heap.size ((y1.val.setCell ⟨gm, 0, none⟩ (.int .i64 m)).setCell ⟨gm, 1, none⟩ (.slice adR A.length cpR)) adR cpR A) := Lib.hid ((hOR.set hgm _).set hgm _)
  obtain ⟨x0, hx0⟩ : ∃ x : Later W1.heap.size W1, x.val = ((y1.val.setCell ⟨gm, 0, none⟩ (.int .i64 m)).setCell ⟨gm, 1, none⟩ (.slice adR A.length cpR)) := ⟨((z.up y1).set ⟨gm, 0, none⟩ hv3 _).set ⟨gm, 1, none⟩ hv3 _, rfl⟩
  rw [← hx0] at R6 HIR ⊢
  clear hx0 hOR KR R5 q0z q1z f0 z0 f1 z1 y1 hy1
  have F0 : ∀ w : Later x0.val.heap.size x0.val, w.val.cell? ⟨gm, 0, none⟩ = some (.int .i64 m) := fun w => (R6.out.keep w.below).cell rfl
  have F1 : ∀ w : Later x0.val.heap.size x0.val, w.val.cell? ⟨gm, 1, none⟩ = some (.slice adR A.length cpR) := fun w => (R6.out.keep w.below).cell rfl
  have HRd : Hid (IntsAt x0.val.heap.size x0.val adR A) := Lib.hid HIR.out.reads
  have q0x := q0 x0
  have hx0s := x0.size
  clear R6 HIR
  have HV2 : Hid (∀ v : Later x0.val.heap.size x0.val, ∃ w : Later B W, w.val = v.val) := Lib.hid (fun v => HV.out (x0.up v))
  have q0' : ∀ w : Later x0.val.heap.size x0.val, w.val.cell? ⟨g0, 0, none⟩ = some (.int .i64 m) := fun w => q0 (x0.up w)
  have q1' : ∀ w : Later x0.val.heap.size x0.val, w.val.cell? ⟨g0, 1, none⟩ = some (.slice a es.length cap) := fun w => q1 (x0.up w)
  have HEx : Hid (EdgesAt x0.val.heap.size x0.val a es) := Lib.hid (HE.out.to x0)
  obtain ⟨Y, hY⟩ : ∃ Y, Y = x0.val := ⟨_, rfl⟩
  obtain ⟨y0, hy0⟩ : ∃ y : Later Y.heap.size Y, y.val = Y := ⟨Later.self _, rfl⟩
  rw [← hY] at F0 F1 HRd q0x HV2 q0' q1' HEx ⊢
  rw [← hy0] at q0x
  rw [← hy0]
  clear hY hy0 x0 hx0s q0 q1 HE HV
  go_wp2
  clear q0x
  go_loopw [7, 32] (fun o iv wr => ∃ (k : Nat) (ad : Option Addr) (cp : Nat) (v : Later Y.heap.size Y), k ≤ m ∧ iv = .int .i64 k ∧ o = .slice ad (ints (lsT es s0 k)).length cp ∧ wr = v.val ∧ Hid (Own Y.heap.size v.val ad cp (ints (lsT es s0 k)))) (fun _ i _ => m - (intOf i).toNat)
  case atStart => exact ⟨0, none, 0, y0, by omega, rfl, rfl, rfl, Lib.hid (Own.nil _ _)⟩
  case round =>
    clear y0
    obtain ⟨k, ad, cp, v, hk, rfl, rfl, rfl, HO⟩ := hrel
    have HL : Hid ((ints (lsT es s0 k)).length ≤ 8) := Lib.hid (by rw [ints_len]; have := lsT_len es s0 k; omega)
    have HSt : Hid (lsT es s0 (k + 1) = if s0.testBit k = true then lsT es s0 k else lsT es s0 k ++ [setT es k es.length]) := Lib.hid rfl
    by_cases hlt : k < m
    · have bk := bit_cast k
      have bk1 := bit_lt k (by omega)
      have KI := Lib.hid (c_in (Later.self v.val) s0 k (by omega) (by omega))
      dsimp only [Later.self] at KI
      rcases btf (s0.testBit k) with g1 | g1
      · rw [g1] at KI HSt
        have HN : Hid (lsT es s0 (k + 1) = lsT es s0 k) := Lib.hid (by rw [HSt.out, if_pos rfl])
        clear HSt g1
        go_wp2_with (first | (go_at_call 9; (with_reducible refine (KI.out).mono ?_); rintro e _ ⟨rfl, v1, rfl⟩))
        go_roundw
        case rel => exact ⟨k+1, ad, cp, v.up v1, by omega, by go_num, by rw [HN.out], rfl, by rw [HN.out]; exact Lib.hid (HO.out.keep v1.below)⟩
        case measure => simp [intOf]; omega
      · rw [g1] at KI HSt
        have HN : Hid (ints (lsT es s0 (k + 1)) = ints (lsT es s0 k) ++ [((setT es k es.length : Nat) : Int)]) := Lib.hid (by rw [HSt.out, if_neg (by decide), ints_snoc])
        clear HSt g1
        generalize hX : ints (lsT es s0 k) = X at *
        go_upto_region 10 with (first | (go_at_call 9; (with_reducible refine (KI.out).mono ?_); rintro e _ ⟨rfl, v1, rfl⟩))
        have HO1 : Hid (Own Y.heap.size v1.val ad cp X) := Lib.hid (HO.out.keep v1.below)
        obtain ⟨v2, hv2⟩ : ∃ v2 : Later Y.heap.size Y, v2.val = v1.val := ⟨v.up v1, rfl⟩
        rw [← hv2] at HO1 ⊢
        clear hv2 HO KI
        have q1v := q1' v2
        go_wp2
        clear q1v
        go_loopw [9, 43] (fun o iv wr => ∃ (q : Nat) (v : Later Y.heap.size Y), q ≤ es.length ∧ iv = .int .i64 q ∧ o = .int .i64 (setT es k q) ∧ wr = v.val ∧ Hid (Own Y.heap.size v.val ad cp X)) (fun _ i _ => es.length - (intOf i).toNat)
        case atStart => exact ⟨0, v2, by omega, rfl, rfl, rfl, HO1⟩
        case round =>
          clear HO1 v2
          obtain ⟨q, v, hq, rfl, rfl, rfl, HO⟩ := hrel
          have hst := setT_lt HG.out hlt q hq
          by_cases hltq : q < es.length
          · obtain ⟨be, offe, rfl, hbe, hce⟩ := HEx.out.at hltq
            have e0 := (hce v q hltq).1
            have e2 := (hce v q hltq).2
            have HXe := HGi.out.2.2.2 q hltq
            have HSq : Hid (setT es k (q + 1) = if vA es q = k then setT es k q ||| bit (vB es q) else setT es k q) := Lib.hid rfl
            obtain ⟨y, hy⟩ := Int.eq_ofNat_of_zero_le HXe.1
            obtain ⟨x, hx⟩ := Int.eq_ofNat_of_zero_le HXe.2.1
            have hvy : vA es q = y := by unfold vA; rw [hy]; rfl
            have hvx : vB es q = x := by unfold vB; rw [hx]; rfl
            rw [hy, hx] at HXe
            have hyn : y < m := by omega
            have hxn : x < m := by omega
            rw [hy] at e0
            rw [hx] at e2
            rw [hvy, hvx] at HSq
            clear HXe hy hx hce hvy hvx
            have HO2 : Hid (Own Y.heap.size (v.val.alloc (.cells #[.int .i64 y, .int .i64 x] 34)) ad cp X) := Lib.hid (HO.out.alloc _)
            have b2 := bit_cast x
            have b3 := bit_lt x (by omega)
            have o1 := i64_or (setT es k q) (bit x) (by omega) (by omega)
            rcases ieq (y : Int) (k : Int) with ⟨g2, d2, _⟩ | ⟨g2, d2, _⟩
            · have f2 : (y == k) = true := by rw [beq_iff_eq]; omega
              have HNq : Hid (setT es k (q + 1) = setT es k q ||| bit x) := Lib.hid (by rw [HSq.out, if_pos (by omega)])
              generalize setT es k q = tk at *
              clear HSq g2
              go_wp2
              go_roundw
              case rel => exact ⟨q+1, v.alloc (.cells #[.int .i64 y, .int .i64 x] 34), by omega, by go_num, by rw [HNq.out], rfl, HO2⟩
              case measure => simp [intOf]; omega
            · have f2 : (y == k) = false := by rw [beq_eq_false_iff_ne]; omega
              have HNq : Hid (setT es k (q + 1) = setT es k q) := Lib.hid (by rw [HSq.out, if_neg (by omega)])
              generalize setT es k q = tk at *
              clear HSq g2
              go_wp2
              go_roundw
              case rel => exact ⟨q+1, v.alloc (.cells #[.int .i64 y, .int .i64 x] 34), by omega, by go_num, by rw [HNq.out], rfl, HO2⟩
              case measure => simp [intOf]; omega
          · have hqe : q = es.length := by omega
            subst hqe
            generalize setT es k es.length = tk at *
            have HOv := HO
            go_wp2_with (first | (at_builtin; refine wpList_push (B := Y.heap.size) (W := Y) (w := v.val) v.below v.size rfl _ _ rfl X ad cp (tk : Int) rfl HOv.out rfl (by have := HL.out; omega) ?_; intro u2 ad2 cp2 hown) | fail)
            go_roundw
            case rel =>
              refine ⟨k+1, ad2, cp2, u2, by omega, by go_num, ?_, rfl, ?_⟩
              · rw [HN.out]; simp
              · rw [HN.out]; exact Lib.hid hown
            case measure => simp [intOf]; omega
    · have hke : k = m := by omega
      subst hke
      generalize hL : ints (lsT es s0 k) = L at *
      have q0v := q0' v
      have q1v := q1' v
      have KL := Lib.hid (c_linksGam (Later.self v.val) k s0 es a cap 0 k A (HEx.out.to v) hlen he1.out.symm (fun h => absurd rfl h) (fun m s e1 e2 hg hs => by
        have e1' : m = k := by omega
        have e2' : s = s0 := by omega
        subst e1' e2'
        exact ⟨rfl, HA.out.symm⟩))
      dsimp only [Later.self] at KL
      go_upto_region 20 with (first | (go_at_call 10; (with_reducible refine (KL.out).mono ?_); rintro e _ ⟨_, rfl, ⟨adG, cpG, rfl, hOG⟩, y1, rfl⟩))
      clear KL q0v q1v
      have R6 : Hid (RowL (y1.val.alloc (.cells #[.int .i64 k, .slice adG A.length cpG] 31)) y1.val.heap.size 31 [.int .i64 k, .slice adG A.length cpG]) := Lib.hid (RowL.new _ _ _)
      have HIG : Hid (IntsAt (y1.val.alloc (.cells #[.int .i64 k, .slice adG A.length cpG] 31)).heap.size (y1.val.alloc (.cells #[.int .i64 k, .slice adG A.length cpG] 31)) adG A) := Lib.hid (hOG.reads.to ((Later.self y1.val).alloc _))
      have hgk : y1.val.heap.size < (y1.val.alloc (.cells #[.int .i64 k, .slice adG A.length cpG] 31)).heap.size := by simp
      obtain ⟨x, hx⟩ : ∃ x : Later v.val.heap.size v.val, x.val = (y1.val.alloc (.cells #[.int .i64 k, .slice adG A.length cpG] 31)) := ⟨y1.alloc _, rfl⟩
      rw [← hx] at R6 hgk HIG
      have G0 : ∀ w : Later x.val.heap.size x.val, w.val.cell? ⟨y1.val.heap.size, 0, none⟩ = some (.int .i64 k) := fun w => (R6.out.keep w.below).cell rfl
      have G1 : ∀ w : Later x.val.heap.size x.val, w.val.cell? ⟨y1.val.heap.size, 1, none⟩ = some (.slice adG A.length cpG) := fun w => (R6.out.keep w.below).cell rfl
      have D0 : ∀ w : Later x.val.heap.size x.val, w.val.cell? ⟨gm, 0, none⟩ = some (.int .i64 k) := fun w => F0 ((v.up x).up w)
      have D1 : ∀ w : Later x.val.heap.size x.val, w.val.cell? ⟨gm, 1, none⟩ = some (.slice adR A.length cpR) := fun w => F1 ((v.up x).up w)
      have q0x : x.val.cell? ⟨g0, 0, none⟩ = some (.int .i64 k) := q0' (v.up x)
      have q1x : x.val.cell? ⟨g0, 1, none⟩ = some (.slice a es.length cap) := q1' (v.up x)
      have HIRx : Hid (IntsAt x.val.heap.size x.val adR A) := Lib.hid (HRd.out.to (v.up x))
      have HILx : Hid (IntsAt x.val.heap.size x.val ad L) := Lib.hid ((HO.out.keep x.below).reads)
      have KT := Lib.hid (c_linksSets (Later.self x.val) k s0 es a cap 0 L (HEx.out.to (v.up x)) hlen he1.out.symm (fun h => absurd rfl h) (fun m s e1 e2 hg hs => by
        have e1' : m = k := by omega
        have e2' : s = s0 := by omega
        subst e1' e2'
        exact hL.symm))
      dsimp only [Later.self] at KT
      have KO := Lib.hid (fun w : Later x.val.heap.size x.val => c_told_yes (Later.self w.val) (k : Int) A adG adR cpG cpR (HIG.out.to w) (HIRx.out.to w) (by have := HAl.out; omega))
      dsimp only [Later.self] at KO
      have hLl := HL.out
      have KP := Lib.hid (fun (w : Later x.val.heap.size x.val) (b : Option Addr) (cb : Nat) (hb : IntsAt w.val.heap.size w.val b L) => c_list_yes (Later.self w.val) L b ad cb cp hb (HILx.out.to w) (by omega))
      first | rw [← hx] | simp only [← hx]
      clear hx F0 F1 hL
      generalize y1.val.heap.size = gk at *
      dsimp only [Later.self] at KP
      go_wp2_with (first | (go_at_call 11; (with_reducible refine (KT.out).mono ?_); rintro e _ ⟨_, rfl, ⟨_, rfl, ⟨adS, cpS, rfl, hIS, hcS⟩⟩, x1, rfl⟩) | (go_at_call 12; (with_reducible refine (KO.out x1).mono ?_); rintro e _ ⟨rfl, x2, rfl⟩) | (go_at_call 13; (have KP2 := KP.out (x1.up x2) adS cpS (hIS.to x2)); dsimp only [Later.up, Later.to] at KP2; (with_reducible refine KP2.mono ?_); rintro e _ ⟨rfl, x3, rfl⟩) | fail)
      go_ret
      obtain ⟨w, hw⟩ := HV2.out ((v.up x).up ((x1.up x2).to x3.val (x3.below.mono (x1.up x2).size)))
      exact Ret.of ⟨w, hw⟩ rfl

theorem law_linksGammoid {B : Nat} {W : World} (u : Later B W) (n t : Int) (es : List (Int × Int)) (a : Option Addr) (cap : Nat) (h : EdgesAt B W a es) (hlen : es.length ≤ 4611686018427387904) :
    Calls Try.prog 3 #[.agg #[.int .i64 n, .slice a es.length cap], .int .i64 t] u.val (Ret B W (.bool true)) := by
  by_cases hok : lkOk n es [t]
  · obtain ⟨hG, h0, h1⟩ := lk_one.1 hok
    obtain ⟨m, rfl⟩ := Int.eq_ofNat_of_zero_le (show 0 ≤ n by have := hG.1; omega)
    obtain ⟨s, rfl⟩ := Int.eq_ofNat_of_zero_le h0
    exact law_gam_yes u m s es a cap h hG (by rw [show ((m : Int)).toNat = m by omega] at h1; omega)
  · exact law_gam_no u n t es a cap h hlen hok

end Go.Proofs.Ytpkjpmkmcffkhaa
