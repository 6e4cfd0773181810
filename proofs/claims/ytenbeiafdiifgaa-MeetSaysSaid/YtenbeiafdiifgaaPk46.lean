
/-
  rotalaw.MeetSays where both are matroids of one number.
-/
import Derived.Test.YtenbeiafdiifgaaPk44
import Derived.Test.YtenbeiafdiifgaaPk31
import Derived.Test.YtenbeiafdiifgaaPk45
import Derived.Test.YtenbeiafdiifgaaPk37
import Derived.Test.YtenbeiafdiifgaaPk14
import Derived.Test.YtenbeiafdiifgaaPk12
import Derived.Test.YtenbeiafdiifgaaPk24
import Derived.Test.YtenbeiafdiifgaaPk07
import Derived.Test.YtenbeiafdiifgaaPk39
import Derived.Deep.CutRange
namespace Go.Proofs.Ytenbeiafdiifgaa
open Go.RowKit
set_option linter.unusedVariables false

/-- the list of the heaviest sets, of each size -/
def HvL (n : Nat) (X Y : Nat → Nat) (f : Nat → Int) (p : Int) (m : Nat) (A : Nat → Int) : Prop := (p ≠ 0 → m = 0) ∧ (p = 0 → m = sz (setTo X Y (bit n)) + 1 ∧ ∀ j, j < m → BestOn (fun t => (ComP X Y t ∧ sz t = j) ∧ t < bit n) f (A j))
theorem HvL.uniq {n m q : Nat} {X Y : Nat → Nat} {f : Nat → Int} {p : Int} {A G : Nat → Int} (h : HvL n X Y f p m A) (g : HvL n X Y f p q G) : m = q ∧ tabL m A = tabL q G := by
  by_cases c : p = 0
  · obtain ⟨h1, h2⟩ := h.2 c
    obtain ⟨g1, g2⟩ := g.2 c
    have e : m = q := by omega
    subst e
    exact ⟨rfl, tabL_congr (fun j hj => (h2 j hj).uniq (g2 j hj))⟩
  · have h1 := h.1 c
    have g1 := g.1 c
    subst h1 g1
    exact ⟨rfl, rfl⟩
/-- behind the list -/
def MeCut (V : World) (n : Nat) (X Y : Nat → Nat) (f : Nat → Int) (p : Int) (x : Value) (w : World) : Prop := ∃ (v : Later V.heap.size V) (ad : Option Addr) (cp m : Nat) (A : Nat → Int), w = v.val ∧ x = .slice ad m cp ∧ HvL n X Y f p m A ∧ Reads v.val.heap.size v.val (.slice ad m cp) (tabL m A)
theorem list_reads {B : Nat} {W : World} (v : Later B W) (xs : List Int) (m : Nat) (a b : Option Addr) (ca cb : Nat) (p : Int) (ha : Reads B W (.slice a m ca) xs) (hb : Reads B W (.slice b m cb) xs) (hlen : xs.length ≤ 4611686018427387904) (hp : p ≠ 0 → m = 0) :
    Calls Try.prog 17 #[.slice a m ca, .int .i64 p, .slice b m cb, .int .i64 p] v.val (Ret B W (.bool true)) := by
  obtain ⟨a1, c1, e1, h1, _⟩ := ha
  obtain ⟨a2, c2, e2, h2, _⟩ := hb
  cases e1
  cases e2
  refine c_list v xs xs a b ca cb p p h1 h2 hlen rfl ?_
  by_cases c : p = 0
  · rw [if_pos c]
  · rw [if_neg c]
    exact List.length_eq_zero_iff.1 (hp c)
theorem reads_up {B : Nat} {W : World} {v : Value} {xs : List Int} (u : Later B W) (h : Reads u.val.heap.size u.val v xs) (w : Later u.val.heap.size u.val) : Reads w.val.heap.size w.val v xs := (h.keep w.below).mono w.size
theorem ret_base {P : Program} {A C : World} (H : ∀ v : Later C.heap.size C, ∃ w : Later A.heap.size A, w.val = v.val) {f : FuncId} {args : Array Value} {x : Value} (h : ∀ w : Later A.heap.size A, Calls P f args w.val (Ret w.val.heap.size w.val x)) (v : Later C.heap.size C) : Calls P f args v.val (Ret C.heap.size C x) := by
  obtain ⟨w, hw⟩ := H v
  have h1 := h w
  rw [hw] at h1
  exact h1.mono (fun e w' ⟨he, u, hu⟩ => ⟨he, v.up u, hu⟩)
theorem retP_base {P : Program} {A C : World} (H : ∀ v : Later C.heap.size C, ∃ w : Later A.heap.size A, w.val = v.val) {f : FuncId} {args : Array Value} {Q : Value → World → Prop} (h : ∀ w : Later A.heap.size A, Calls P f args w.val (RetP w.val.heap.size w.val Q)) (v : Later C.heap.size C) : Calls P f args v.val (RetP v.val.heap.size v.val Q) := by
  obtain ⟨w, hw⟩ := H v
  have h1 := h w
  rwa [hw] at h1
theorem ret_self {P : Program} {A C : World} (H : ∀ v : Later C.heap.size C, ∃ w : Later A.heap.size A, w.val = v.val) {f : FuncId} {args : Array Value} {x : Value} (h : ∀ w : Later A.heap.size A, Calls P f args w.val (Ret w.val.heap.size w.val x)) (v : Later C.heap.size C) : Calls P f args v.val (Ret v.val.heap.size v.val x) := by
  obtain ⟨w, hw⟩ := H v
  have h1 := h w
  rwa [hw] at h1
theorem ret_to {P : Program} {B : Nat} {W : World} {f : FuncId} {args : Array Value} {x : Value} (v : Later B W) (h : Calls P f args v.val (Ret v.val.heap.size v.val x)) : Calls P f args v.val (Ret B W x) :=
  h.mono (fun e w' ⟨he, u, hu⟩ => ⟨he, v.up u, hu⟩)
theorem tabL_push (q : Nat) (A : Nat → Int) (b : Int) : tabL (q + 1) (fun j => if j = q then b else A j) = tabL q A ++ [b] := by
  rw [tabL_snoc, tabL_congr (A' := A) (fun j hj => by show (if j = q then b else A j) = A j; rw [if_neg (by omega)])]
  show _ ++ [if q = q then b else A q] = _
  rw [if_pos rfl]
/-- the loop over the sets of one size -/
theorem bestD_start {P : Nat → Prop} {f : Nat → Int} {N : Nat} : BestOn (fun t => (P t ∧ t < N) ∧ N ≤ t) f (-1) := BestOn.none (fun t h => by omega)

set_option maxRecDepth 100000 in
set_option maxHeartbeats 20000000 in
theorem law_meet_yes {B : Nat} {W : World} (u : Later B W) (n : Nat) (hn : n ≤ 8) (l1 l2 ws : List Int) (sv : Int) (a b ax : Option Addr) (cap capb cw : Nat) (h1 : IntsAt B W a l1) (h2 : IntsAt B W b l2) (hw : IntsAt B W ax ws) (hlen1 : l1.length ≤ 4611686018427387904) (hlen2 : l2.length ≤ 4611686018427387904) (hlenw : ws.length ≤ 4611686018427387904) (he1 : MatIs (n : Int) l1 0) (he2 : MatIs (n : Int) l2 0) (p : Int) (hp : PrcIs n ws p) :
    Calls Try.prog 3 #[.agg #[.int .i64 n, .slice a l1.length cap], .agg #[.int .i64 n, .slice b l2.length capb], .slice ax ws.length cw, .int .i64 sv] u.val (Ret B W (.bool true)) := by
  have hbn := bit_le n hn
  have hs1 : (u.val.alloc (.cells #[.int .i64 n, .slice a l1.length cap] 24)).heap.size = u.val.heap.size + 1 := by simp
  have HA : Hid (RowL ((u.val.alloc (.cells #[.int .i64 n, .slice a l1.length cap] 24)).alloc (.cells #[.int .i64 n, .slice b l2.length capb] 24)) u.val.heap.size 24 [.int .i64 n, .slice a l1.length cap]) := Lib.hid ((RowL.new _ _ _).keep ((Below.refl _ _).alloc (Nat.le_refl _) _))
  have HB2 : Hid (RowL ((u.val.alloc (.cells #[.int .i64 n, .slice a l1.length cap] 24)).alloc (.cells #[.int .i64 n, .slice b l2.length capb] 24)) (u.val.heap.size + 1) 24 [.int .i64 n, .slice b l2.length capb]) := Lib.hid (by
    have := RowL.new (u.val.alloc (.cells #[.int .i64 n, .slice a l1.length cap] 24)) 24 [.int .i64 n, .slice b l2.length capb]
    rwa [hs1] at this)
  have HVY : Hid (∀ v : Later ((u.val.alloc (.cells #[.int .i64 n, .slice a l1.length cap] 24)).alloc (.cells #[.int .i64 n, .slice b l2.length capb] 24)).heap.size ((u.val.alloc (.cells #[.int .i64 n, .slice a l1.length cap] 24)).alloc (.cells #[.int .i64 n, .slice b l2.length capb] 24)), ∃ w : Later B W, w.val = v.val) := Lib.hid (fun v => ⟨((u.alloc _).alloc _).up v, rfl⟩)
  have I1 : Hid (IntsAt ((u.val.alloc (.cells #[.int .i64 n, .slice a l1.length cap] 24)).alloc (.cells #[.int .i64 n, .slice b l2.length capb] 24)).heap.size ((u.val.alloc (.cells #[.int .i64 n, .slice a l1.length cap] 24)).alloc (.cells #[.int .i64 n, .slice b l2.length capb] 24)) a l1) := Lib.hid (h1.to ((u.alloc _).alloc _))
  have I2 : Hid (IntsAt ((u.val.alloc (.cells #[.int .i64 n, .slice a l1.length cap] 24)).alloc (.cells #[.int .i64 n, .slice b l2.length capb] 24)).heap.size ((u.val.alloc (.cells #[.int .i64 n, .slice a l1.length cap] 24)).alloc (.cells #[.int .i64 n, .slice b l2.length capb] 24)) b l2) := Lib.hid (h2.to ((u.alloc _).alloc _))
  have IW : Hid (IntsAt ((u.val.alloc (.cells #[.int .i64 n, .slice a l1.length cap] 24)).alloc (.cells #[.int .i64 n, .slice b l2.length capb] 24)).heap.size ((u.val.alloc (.cells #[.int .i64 n, .slice a l1.length cap] 24)).alloc (.cells #[.int .i64 n, .slice b l2.length capb] 24)) ax ws) := Lib.hid (hw.to ((u.alloc _).alloc _))
  have KM1 := Lib.hid (fun v : Later ((u.val.alloc (.cells #[.int .i64 n, .slice a l1.length cap] 24)).alloc (.cells #[.int .i64 n, .slice b l2.length capb] 24)).heap.size ((u.val.alloc (.cells #[.int .i64 n, .slice a l1.length cap] 24)).alloc (.cells #[.int .i64 n, .slice b l2.length capb] 24)) => c_refMatroid v n l1 a cap 0 I1.out hlen1 he1)
  have KM2 := Lib.hid (fun v : Later ((u.val.alloc (.cells #[.int .i64 n, .slice a l1.length cap] 24)).alloc (.cells #[.int .i64 n, .slice b l2.length capb] 24)).heap.size ((u.val.alloc (.cells #[.int .i64 n, .slice a l1.length cap] 24)).alloc (.cells #[.int .i64 n, .slice b l2.length capb] 24)) => c_refMatroid v n l2 b capb 0 I2.out hlen2 he2)
  have KB : Hid (∀ v : Later ((u.val.alloc (.cells #[.int .i64 n, .slice a l1.length cap] 24)).alloc (.cells #[.int .i64 n, .slice b l2.length capb] 24)).heap.size ((u.val.alloc (.cells #[.int .i64 n, .slice a l1.length cap] 24)).alloc (.cells #[.int .i64 n, .slice b l2.length capb] 24)), Calls Try.prog 5 #[.bool true, .int .i64 3] v.val (Ret ((u.val.alloc (.cells #[.int .i64 n, .slice a l1.length cap] 24)).alloc (.cells #[.int .i64 n, .slice b l2.length capb] 24)).heap.size ((u.val.alloc (.cells #[.int .i64 n, .slice a l1.length cap] 24)).alloc (.cells #[.int .i64 n, .slice b l2.length capb] 24)) (.int .i64 0))) := Lib.hid (fun v => c_bad v true 3)
  have KX : Hid (∀ v : Later ((u.val.alloc (.cells #[.int .i64 n, .slice a l1.length cap] 24)).alloc (.cells #[.int .i64 n, .slice b l2.length capb] 24)).heap.size ((u.val.alloc (.cells #[.int .i64 n, .slice a l1.length cap] 24)).alloc (.cells #[.int .i64 n, .slice b l2.length capb] 24)), Calls Try.prog 6 #[.agg #[.int .i64 n, .slice a l1.length cap]] v.val (RetP v.val.heap.size v.val (fun x w => ∃ g c, x = .slice (some ⟨g, 0, none⟩) (bit n) c ∧ ITab w g (bit n) (fun j => (rk (toN l1) j : Int))))) := Lib.hid (fun v => c_refRanks (Later.self v.val) n hn l1 a cap (I1.out.to v) hlen1 he1.ok.1.1)
  have KY : Hid (∀ v : Later ((u.val.alloc (.cells #[.int .i64 n, .slice a l1.length cap] 24)).alloc (.cells #[.int .i64 n, .slice b l2.length capb] 24)).heap.size ((u.val.alloc (.cells #[.int .i64 n, .slice a l1.length cap] 24)).alloc (.cells #[.int .i64 n, .slice b l2.length capb] 24)), Calls Try.prog 6 #[.agg #[.int .i64 n, .slice b l2.length capb]] v.val (RetP v.val.heap.size v.val (fun x w => ∃ g c, x = .slice (some ⟨g, 0, none⟩) (bit n) c ∧ ITab w g (bit n) (fun j => (rk (toN l2) j : Int))))) := Lib.hid (fun v => c_refRanks (Later.self v.val) n hn l2 b capb (I2.out.to v) hlen2 he2.ok.1.1)
  have HX : Hid (RkM n (rk (toN l1))) := Lib.hid (rkM_of_mat he1.ok.1 he1.ok.2)
  have HY : Hid (RkM n (rk (toN l2))) := Lib.hid (rkM_of_mat he2.ok.1 he2.ok.2)
  have KAl : Hid (∀ v : Later ((u.val.alloc (.cells #[.int .i64 n, .slice a l1.length cap] 24)).alloc (.cells #[.int .i64 n, .slice b l2.length capb] 24)).heap.size ((u.val.alloc (.cells #[.int .i64 n, .slice a l1.length cap] 24)).alloc (.cells #[.int .i64 n, .slice b l2.length capb] 24)), Calls Try.prog 7 #[.int .i64 n] v.val (Ret v.val.heap.size v.val (.int .i64 (bit n - 1 : Nat)))) := Lib.hid (fun v => by
    have := c_all (Later.self v.val) n (by omega) (by omega)
    rwa [all_nat] at this)
  have KP : Hid (∀ v : Later ((u.val.alloc (.cells #[.int .i64 n, .slice a l1.length cap] 24)).alloc (.cells #[.int .i64 n, .slice b l2.length capb] 24)).heap.size ((u.val.alloc (.cells #[.int .i64 n, .slice a l1.length cap] 24)).alloc (.cells #[.int .i64 n, .slice b l2.length capb] 24)), Calls Try.prog 9 #[.int .i64 n, .slice ax ws.length cw] v.val (Ret v.val.heap.size v.val (.int .i64 p))) := Lib.hid (fun v => c_refPriced (Later.self v.val) n ws ax cw p (IW.out.to v) hlenw hn hp)
  have KWe : Hid (p = 0 → ∀ (v : Later ((u.val.alloc (.cells #[.int .i64 n, .slice a l1.length cap] 24)).alloc (.cells #[.int .i64 n, .slice b l2.length capb] 24)).heap.size ((u.val.alloc (.cells #[.int .i64 n, .slice a l1.length cap] 24)).alloc (.cells #[.int .i64 n, .slice b l2.length capb] 24))) (t : Nat), t < bit n → Calls Try.prog 10 #[.slice ax ws.length cw, .int .i64 t] v.val (Ret v.val.heap.size v.val (.int .i64 (wsT (fun i => ws.getD i 0) t n)))) := Lib.hid (fun h v t ht => c_weighs (Later.self v.val) n t hn ht ws ax cw (IW.out.to v) (by rw [← h]; exact hp))
  have KIs : Hid (∀ v : Later ((u.val.alloc (.cells #[.int .i64 n, .slice a l1.length cap] 24)).alloc (.cells #[.int .i64 n, .slice b l2.length capb] 24)).heap.size ((u.val.alloc (.cells #[.int .i64 n, .slice a l1.length cap] 24)).alloc (.cells #[.int .i64 n, .slice b l2.length capb] 24)), Calls Try.prog 11 #[.int .i64 n, .int .i64 sv] v.val (Ret v.val.heap.size v.val (.bool (decide (isSet n sv))))) := Lib.hid (fun v => c_isSet (Later.self v.val) n sv)
  have KBs : Hid (∀ (v : Later ((u.val.alloc (.cells #[.int .i64 n, .slice a l1.length cap] 24)).alloc (.cells #[.int .i64 n, .slice b l2.length capb] 24)).heap.size ((u.val.alloc (.cells #[.int .i64 n, .slice a l1.length cap] 24)).alloc (.cells #[.int .i64 n, .slice b l2.length capb] 24))) (o : Bool), Calls Try.prog 5 #[.bool o, .int .i64 1] v.val (Ret v.val.heap.size v.val (.int .i64 (errno o 1)))) := Lib.hid (fun v o => c_bad (Later.self v.val) o 1)
  have hq1 : ints (toN l1) = l1 := ints_toN (fun i hi => (he1.ok.1.1.2.2 i hi).1)
  have hq2 : ints (toN l2) = l2 := ints_toN (fun i hi => (he2.ok.1.1.2.2 i hi).1)
  have hfl1 : l1.length = (toN l1).length := by simp [toN]
  have hfl2 : l2.length = (toN l2).length := by simp [toN]
  have KC1 : Hid (∀ (v : Later ((u.val.alloc (.cells #[.int .i64 n, .slice a l1.length cap] 24)).alloc (.cells #[.int .i64 n, .slice b l2.length capb] 24)).heap.size ((u.val.alloc (.cells #[.int .i64 n, .slice a l1.length cap] 24)).alloc (.cells #[.int .i64 n, .slice b l2.length capb] 24))) (t : Nat), t < bit n → Calls Try.prog 12 #[.agg #[.int .i64 n, .slice a l1.length cap], .int .i64 t] v.val (Ret v.val.heap.size v.val (.int .i64 (clo n (toN l1) t)))) := Lib.hid (fun v t ht => by
    have h3 := c_refClo (Later.self v.val) n _ hn t (toN l1) (toN_ne he1.ok.1.2.1) he1.ok.1.fam8 he1.ok.2 (by rw [← hfl1]; exact hlen1) a cap (by rw [hq1]; exact I1.out.to v) ht
    rwa [hq1] at h3)
  have KC2 : Hid (∀ (v : Later ((u.val.alloc (.cells #[.int .i64 n, .slice a l1.length cap] 24)).alloc (.cells #[.int .i64 n, .slice b l2.length capb] 24)).heap.size ((u.val.alloc (.cells #[.int .i64 n, .slice a l1.length cap] 24)).alloc (.cells #[.int .i64 n, .slice b l2.length capb] 24))) (t : Nat), t < bit n → Calls Try.prog 12 #[.agg #[.int .i64 n, .slice b l2.length capb], .int .i64 t] v.val (Ret v.val.heap.size v.val (.int .i64 (clo n (toN l2) t)))) := Lib.hid (fun v t ht => by
    have h3 := c_refClo (Later.self v.val) n _ hn t (toN l2) (toN_ne he2.ok.1.2.1) he2.ok.1.fam8 he2.ok.2 (by rw [← hfl2]; exact hlen2) b capb (by rw [hq2]; exact I2.out.to v) ht
    rwa [hq2] at h3)
  have HLs : Hid (∀ s : Nat, s < bit n → LeastS n (rk (toN l1)) (rk (toN l2)) s (clo2 n (toN l1) (toN l2) s (2 * n))) := Lib.hid (fun s hs => clo2_least hn (toN_ne he1.ok.1.2.1) he1.ok.1.fam8 he1.ok.2 (toN_ne he2.ok.1.2.1) he2.ok.1.fam8 he2.ok.2 hs)
  have HL1 : Hid (∀ t, t < bit n → clo n (toN l1) t < bit n) := Lib.hid (fun t ht => clo_lt _ ht)
  have HC0 : Hid (∀ s, clo2 n (toN l1) (toN l2) s 0 = s) := Lib.hid (fun s => rfl)
  have HCs : Hid (∀ s j, clo2 n (toN l1) (toN l2) s (j + 1) = clo n (toN l2) (clo n (toN l1) (clo2 n (toN l1) (toN l2) s j))) := Lib.hid (fun s j => rfl)
  have HCl : Hid (∀ s j, s < bit n → clo2 n (toN l1) (toN l2) s j < bit n) := Lib.hid (fun s j hs => clo2_lt hs j)
  -- what the house answers
  have KCm : Hid (∀ v : Later ((u.val.alloc (.cells #[.int .i64 n, .slice a l1.length cap] 24)).alloc (.cells #[.int .i64 n, .slice b l2.length capb] 24)).heap.size ((u.val.alloc (.cells #[.int .i64 n, .slice a l1.length cap] 24)).alloc (.cells #[.int .i64 n, .slice b l2.length capb] 24)), Calls Try.prog 13 #[.agg #[.int .i64 n, .slice a l1.length cap], .agg #[.int .i64 n, .slice b l2.length capb]] v.val (RetP v.val.heap.size v.val (fun v w => ComAns n (rk (toN l1)) (rk (toN l2)) v))) := Lib.hid (fun v => c_mtCommon (Later.self v.val) n hn l1 l2 a b cap capb (I1.out.to v) (I2.out.to v) hlen1 hlen2 he1 he2)
  have KHv : Hid (∀ v : Later ((u.val.alloc (.cells #[.int .i64 n, .slice a l1.length cap] 24)).alloc (.cells #[.int .i64 n, .slice b l2.length capb] 24)).heap.size ((u.val.alloc (.cells #[.int .i64 n, .slice a l1.length cap] 24)).alloc (.cells #[.int .i64 n, .slice b l2.length capb] 24)), Calls Try.prog 14 #[.agg #[.int .i64 n, .slice a l1.length cap], .agg #[.int .i64 n, .slice b l2.length capb], .slice ax ws.length cw] v.val (RetP v.val.heap.size v.val (fun x w => ∃ (ad : Option Addr) (cp m : Nat) (A : Nat → Int), x = .tuple #[.slice ad m cp, .int .i64 p] ∧ HvL n (rk (toN l1)) (rk (toN l2)) (fun t => wsT (fun i => ws.getD i 0) t n) p m A ∧ Reads w.heap.size w (.slice ad m cp) (tabL m A)))) := Lib.hid (fun v => by
    by_cases c : p = 0
    · subst c
      refine (c_mtHeaviest (Later.self v.val) n hn l1 l2 a b cap capb (I1.out.to v) (I2.out.to v) hlen1 hlen2 he1 he2 ws ax cw (IW.out.to v) hp).mono ?_
      rintro e w ⟨x, rfl, ⟨ad, cp, m, Af, rfl, hm, hb, hr⟩, hu⟩
      exact ⟨_, rfl, ⟨ad, cp, m, Af, rfl, ⟨fun h => absurd rfl h, fun _ => ⟨hm, hb⟩⟩, hr⟩, hu⟩
    · refine (c_mtHeaviest_bad (Later.self v.val) n hn l1 l2 a b cap capb (I1.out.to v) (I2.out.to v) hlen1 hlen2 he1 he2 ws ax cw p (IW.out.to v) hp c).mono ?_
      rintro e w ⟨rfl, y, rfl⟩
      exact ⟨_, rfl, ⟨none, 0, 0, fun _ => 0, rfl, ⟨fun _ => rfl, fun h => absurd h c⟩, Reads.nil _ _⟩, y, rfl⟩)
  have KSp : Hid (∀ (v : Later ((u.val.alloc (.cells #[.int .i64 n, .slice a l1.length cap] 24)).alloc (.cells #[.int .i64 n, .slice b l2.length capb] 24)).heap.size ((u.val.alloc (.cells #[.int .i64 n, .slice a l1.length cap] 24)).alloc (.cells #[.int .i64 n, .slice b l2.length capb] 24))) (spv : Nat), (isSet n sv → ∃ s : Nat, sv = s ∧ s < bit n ∧ spv = clo2 n (toN l1) (toN l2) s (2 * n)) → (¬ isSet n sv → spv = 0) → Calls Try.prog 15 #[.agg #[.int .i64 n, .slice a l1.length cap], .agg #[.int .i64 n, .slice b l2.length capb], .int .i64 sv] v.val (Ret v.val.heap.size v.val (.tuple #[.int .i64 spv, .int .i64 (errno (decide (isSet n sv)) 1)]))) := Lib.hid (fun v spv hy hno => by
    by_cases c : isSet n sv
    · obtain ⟨s, rfl, hs, rfl⟩ := hy c
      rw [decide_eq_true c]
      refine (c_mtSpanned (Later.self v.val) n hn l1 l2 a b cap capb (I1.out.to v) (I2.out.to v) hlen1 hlen2 he1 he2 s hs).mono ?_
      rintro e w ⟨_, rfl, ⟨r, rfl, hr⟩, y, rfl⟩
      refine ⟨?_, y, rfl⟩
      rw [hr.uniq (HLs.out s hs)]; rfl
    · rw [hno c, decide_eq_false c]
      exact c_mtSpanned_bad (Later.self v.val) n hn l1 l2 a b cap capb (I1.out.to v) (I2.out.to v) hlen1 hlen2 he1 he2 sv c)
  clear h1 h2 he1 he2 hs1 I1 I2 IW hw hq1 hq2 hfl1 hfl2
  generalize clo2 n (toN l1) (toN l2) = CC at *
  generalize clo n (toN l1) = C1 at *
  generalize clo n (toN l2) = C2 at *
  generalize rk (toN l1) = X at *
  generalize rk (toN l2) = Y at *
  generalize wsT (fun i => ws.getD i 0) = F at *
  go_enter Try.func3, Try.ntmps3
  go_upto_region 1 with fail
  generalize ((u.val.alloc (.cells #[.int .i64 n, .slice a l1.length cap] 24)).alloc (.cells #[.int .i64 n, .slice b l2.length capb] 24)) = A at *
  generalize u.val.heap.size = g at *
  have q0 : ∀ w : Later A.heap.size A, w.val.cell? ⟨g, 0, none⟩ = some (.int .i64 n) := fun w => (HA.out.keep w.below).cell rfl
  have q1 : ∀ w : Later A.heap.size A, w.val.cell? ⟨g, 1, none⟩ = some (.slice a l1.length cap) := fun w => (HA.out.keep w.below).cell rfl
  have q2 : ∀ w : Later A.heap.size A, w.val.cell? ⟨g + 1, 0, none⟩ = some (.int .i64 n) := fun w => (HB2.out.keep w.below).cell rfl
  have q3 : ∀ w : Later A.heap.size A, w.val.cell? ⟨g + 1, 1, none⟩ = some (.slice b l2.length capb) := fun w => (HB2.out.keep w.below).cell rfl
  obtain ⟨z, hz⟩ : ∃ z : Later A.heap.size A, z.val = A := ⟨Later.self _, rfl⟩
  rw [← hz]
  clear hz u HA HB2
  generalize g + 1 = g' at *
  have qa : ∀ w : Later A.heap.size A, w.val.cell? ⟨g, 0, none⟩ = some (.int .i64 n) ∧ w.val.cell? ⟨g, 1, none⟩ = some (.slice a l1.length cap) ∧ w.val.cell? ⟨g', 0, none⟩ = some (.int .i64 n) ∧ w.val.cell? ⟨g', 1, none⟩ = some (.slice b l2.length capb) := fun w => ⟨q0 w, q1 w, q2 w, q3 w⟩
  have z0 : ((0 : Int) == 0) = true := rfl
  have dn : ((n : Int) == (n : Int)) = true := by simp
  have QA := Lib.hid qa
  obtain ⟨p0, p1, p2, p3⟩ := qa z
  clear q0 q1 q2 q3 qa
  go_upto_region 10 with (first | (go_at_call 4; (with_reducible refine (KM1.out z).mono ?_); rintro e _ ⟨rfl, v0, rfl⟩; obtain ⟨r0, r1, r2, r3⟩ := QA.out v0) | (go_at_call 4; (with_reducible refine (KM2.out v0).mono ?_); rintro e _ ⟨rfl, v9, rfl⟩; obtain ⟨r0, r1, r2, r3⟩ := QA.out v9) | (go_at_call 5; (with_reducible refine (KB.out v9).mono ?_); rintro e _ ⟨rfl, y, rfl⟩) | fail)
  clear KM1 KM2 KB p0 p1 p2 p3
  have KX1 : Hid (Calls Try.prog 6 #[.agg #[.int .i64 n, .slice a l1.length cap]] y.val.drew (RetP y.val.drew.heap.size y.val.drew (fun x w => ∃ g c, x = .slice (some ⟨g, 0, none⟩) (bit n) c ∧ ITab w g (bit n) (fun j => (X j : Int))))) := Lib.hid (KX.out y.drew)
  have KY1 : Hid (∀ v1 : Later y.val.drew.heap.size y.val.drew, Calls Try.prog 6 #[.agg #[.int .i64 n, .slice b l2.length capb]] v1.val (RetP v1.val.heap.size v1.val (fun x w => ∃ g c, x = .slice (some ⟨g, 0, none⟩) (bit n) c ∧ ITab w g (bit n) (fun j => (Y j : Int))))) := Lib.hid (fun v1 => KY.out (y.drew.up v1))
  have HVy : Hid (∀ v1 : Later y.val.drew.heap.size y.val.drew, ∃ w : Later A.heap.size A, w.val = v1.val) := Lib.hid (fun v1 => ⟨y.drew.up v1, rfl⟩)
  have s00 := QA.out y
  have s01 : ∀ v1 : Later y.val.drew.heap.size y.val.drew, v1.val.cell? ⟨g, 0, none⟩ = some (.int .i64 n) ∧ v1.val.cell? ⟨g, 1, none⟩ = some (.slice a l1.length cap) ∧ v1.val.cell? ⟨g', 0, none⟩ = some (.int .i64 n) ∧ v1.val.cell? ⟨g', 1, none⟩ = some (.slice b l2.length capb) := fun v1 => QA.out (y.drew.up v1)
  clear KX KY
  go_region_held3 (fun w' => w'.cell? ⟨g, 0, none⟩ = some (.int .i64 n) ∧ w'.cell? ⟨g, 1, none⟩ = some (.slice a l1.length cap) ∧ w'.cell? ⟨g', 0, none⟩ = some (.int .i64 n) ∧ w'.cell? ⟨g', 1, none⟩ = some (.slice b l2.length capb)) (first | exact s00 | exact s01 (v1.up v2) | exact s01 v1 | fail) (first | (go_at_call 6; (with_reducible refine (KX1.out).mono ?_); rintro e _ ⟨_, rfl, ⟨gx, cx, rfl, hTx⟩, v1, rfl⟩) | (go_at_call 6; (with_reducible refine (KY1.out v1).mono ?_); rintro e _ ⟨_, rfl, ⟨gy, cy, rfl, hTy⟩, v2, rfl⟩) | fail)
  have HTx := Lib.hid (hTx.keep v2.below)
  have HTy := Lib.hid hTy
  obtain ⟨C, hC⟩ : ∃ C, C = v2.val := ⟨_, rfl⟩
  have HVC : Hid (∀ v : Later C.heap.size C, ∃ w : Later A.heap.size A, w.val = v.val) := Lib.hid (fun v => by subst hC; exact HVy.out ((v1.up v2).up v))
  rw [← hC] at HTx HTy ⊢
  have hgx := HTx.out.lt
  have hgy := HTy.out.lt
  clear hTx hTy s00 s01 HVy KX1 KY1
  obtain ⟨z, hz⟩ : ∃ z : Later C.heap.size C, z.val = C := ⟨Later.self _, rfl⟩
  rw [← hz]
  rw [← hz] at hC
  clear hz
  have HKC := Lib.hid hC
  clear hC
  have QC : Hid (∀ w : Later C.heap.size C, w.val.cell? ⟨g, 0, none⟩ = some (.int .i64 n) ∧ w.val.cell? ⟨g, 1, none⟩ = some (.slice a l1.length cap) ∧ w.val.cell? ⟨g', 0, none⟩ = some (.int .i64 n) ∧ w.val.cell? ⟨g', 1, none⟩ = some (.slice b l2.length capb)) := Lib.hid (fun w => by
    obtain ⟨x, hx⟩ := HVC.out w
    rw [← hx]; exact QA.out x)
  have HVB : Hid (∀ v : Later C.heap.size C, ∃ w : Later B W, w.val = v.val) := Lib.hid (fun v => by
    obtain ⟨x, hx⟩ := HVC.out v
    rw [← hx]; exact HVY.out x)
  have KSz : Hid (∀ (v : Later C.heap.size C) (t : Nat), t < 256 → Calls Try.prog 8 #[.int .i64 t] v.val (Ret C.heap.size C (.int .i64 (sz t)))) := Lib.hid (fun v t ht => c_size v t ht)
  obtain ⟨al, hal⟩ : ∃ al, al + 1 = bit n := ⟨bit n - 1, by omega⟩
  have hal1 : bit n - 1 = al := by omega
  have HAl : Hid (∀ v : Later C.heap.size C, Calls Try.prog 7 #[.int .i64 n] v.val (Ret C.heap.size C (.int .i64 al))) := Lib.hid (fun v => by rw [← hal1]; exact ret_base HVC.out KAl.out v)
  have KIs := Lib.hid (ret_self HVC.out KIs.out)
  have KBs := Lib.hid (fun (v : Later C.heap.size C) (o : Bool) => ret_self HVC.out (fun w => KBs.out w o) v)
  have KP := Lib.hid (ret_base HVC.out KP.out)
  have KWe := Lib.hid (fun (h : p = 0) (v : Later C.heap.size C) (t : Nat) (ht : t < bit n) => ret_self HVC.out (fun w => KWe.out h w t ht) v)
  have KC1 := Lib.hid (fun (v : Later C.heap.size C) (t : Nat) (ht : t < bit n) => ret_self HVC.out (fun w => KC1.out w t ht) v)
  have KC2 := Lib.hid (fun (v : Later C.heap.size C) (t : Nat) (ht : t < bit n) => ret_self HVC.out (fun w => KC2.out w t ht) v)
  have KCm := Lib.hid (retP_base HVC.out KCm.out)
  have KHv := Lib.hid (retP_base HVC.out KHv.out)
  have KSp := Lib.hid (fun (v : Later C.heap.size C) (spv : Nat) h1 h2 => ret_self HVC.out (fun w => KSp.out w spv h1 h2) v)
  clear QA KAl HVC
  have qz := (QC.out z).1
  generalize hmost : sz (setTo X Y (bit n)) = most at *
  have HMost := Lib.hid hmost
  have hmost8 : most ≤ 8 := by rw [← hmost]; exact sz_le _
  clear hmost
  obtain ⟨V0, hV0⟩ : ∃ V0, V0 = C := ⟨_, rfl⟩
  go_wp2_with (first | (go_at_call 7; (with_reducible refine (HAl.out z).mono ?_); rintro e _ ⟨rfl, v, rfl⟩) | fail)
  go_loopw [12, 19] (fun st tt wr => ∃ (k : Nat) (v : Later C.heap.size C), k ≤ al + 1 ∧ st = .int .i64 (setTo X Y k : Nat) ∧ tt = .int .i64 k ∧ wr = v.val) (fun _ tt _ => al + 1 - (intOf tt).toNat)
  case atStart => exact ⟨0, v, by omega, rfl, rfl, rfl⟩
  case round =>
    clear v
    obtain ⟨k, v, hk, rfl, rfl, rfl⟩ := hrel
    by_cases hlt : k ≤ al
    · have ht8 : k < 256 := by omega
      have hset8 : setTo X Y k < 256 := by have := setTo_le X Y k; omega
      have fx : ∀ w : Later C.heap.size C, w.val.cell? ⟨gx, k, none⟩ = some (.int .i64 (X k : Int)) := fun w => (HTx.out.keep_at w.below hgx).cell (by omega)
      have fy : ∀ w : Later C.heap.size C, w.val.cell? ⟨gy, k, none⟩ = some (.int .i64 (Y k : Int)) := fun w => (HTy.out.keep_at w.below hgy).cell (by omega)
      have hkb : k < bit n := by omega
      have HSt : Hid (setTo X Y (k + 1) = if (X k = sz k ∧ Y k = sz k) ∧ sz (setTo X Y k) < sz k then k else setTo X Y k) := Lib.hid rfl
      have K1 : Hid (∀ v : Later C.heap.size C, Calls Try.prog 8 #[.int .i64 k] v.val (Ret C.heap.size C (.int .i64 (sz k)))) := Lib.hid (fun v => KSz.out v k ht8)
      have K2 : Hid (∀ v : Later C.heap.size C, Calls Try.prog 8 #[.int .i64 (setTo X Y k : Nat)] v.val (Ret C.heap.size C (.int .i64 (sz (setTo X Y k))))) := Lib.hid (fun v => KSz.out v _ hset8)
      generalize setTo X Y (k + 1) = s2 at HSt
      have hS2 : ∀ x, s2 = x → s2 = x := fun x h => h
      have HS2 : Hid (setTo X Y (k + 1) = s2) := Lib.hid (by rw [HSt.out]; rfl)
      generalize setTo X Y k = s1 at *
      generalize sz s1 = ss at *
      generalize sz k = sk at *
      generalize X k = xk at fx HSt ⊢
      generalize Y k = yk at fy HSt ⊢
      clear hset8
      by_cases h1 : xk = sk
      · have d1 : ((xk : Int) == (sk : Int)) = true := by rw [beq_iff_eq]; omega
        have d1' : (xk == sk) = true := by rw [beq_iff_eq]; exact h1
        by_cases h2 : yk = sk
        · have d2 : ((yk : Int) == (sk : Int)) = true := by rw [beq_iff_eq]; omega
          have d2' : (yk == sk) = true := by rw [beq_iff_eq]; exact h2
          rcases nlt ss sk with ⟨h3, d3⟩ | ⟨h3, d3⟩
          · have HE : Hid (s2 = k) := Lib.hid (by rw [HSt.out, if_pos ⟨⟨h1, h2⟩, h3⟩])
            clear HSt h1 h2 h3
            go_upto_region 15 with fail
            refine wp_region_later v (by kernel_rfl) (by kernel_rfl) (fun _ => ?_)
            repeat (first | go_big_quiet_step (((go_at_call 8; exact (by first | exact K1.out _ | exact K2.out _)))) | (refine wpQuiet_step (fun K hK => ?_); go_simp; refine ⟨_, fun _ => rfl, ?_⟩; refine hK _ ?_; clear hK K))
            refine wpQuiet_nil ?_
            intro v
            go_wp2
            go_roundw
            case rel => exact ⟨k + 1, v, by omega, by rw [HS2.out, HE.out], by go_num, by first | rfl | trivial⟩
            case measure => simp [intOf]; omega
          · have HE : Hid (s2 = s1) := Lib.hid (by rw [HSt.out, if_neg (fun h => by omega)])
            clear HSt h1 h2 h3
            go_upto_region 15 with fail
            refine wp_region_later v (by kernel_rfl) (by kernel_rfl) (fun _ => ?_)
            repeat (first | go_big_quiet_step (((go_at_call 8; exact (by first | exact K1.out _ | exact K2.out _)))) | (refine wpQuiet_step (fun K hK => ?_); go_simp; refine ⟨_, fun _ => rfl, ?_⟩; refine hK _ ?_; clear hK K))
            refine wpQuiet_nil ?_
            intro v
            go_wp2
            go_roundw
            case rel => exact ⟨k + 1, v, by omega, by rw [HS2.out, HE.out], by go_num, by first | rfl | trivial⟩
            case measure => simp [intOf]; omega
        · have d2 : ((yk : Int) == (sk : Int)) = false := by rw [beq_eq_false_iff_ne]; omega
          have d2' : (yk == sk) = false := by rw [beq_eq_false_iff_ne]; exact h2
          have HE : Hid (s2 = s1) := Lib.hid (by rw [HSt.out, if_neg (fun h => h2 h.1.2)])
          clear HSt h1 h2
          go_upto_region 15 with fail
          refine wp_region_later v (by kernel_rfl) (by kernel_rfl) (fun _ => ?_)
          repeat (first | go_big_quiet_step (((go_at_call 8; exact (by first | exact K1.out _ | exact K2.out _)))) | (refine wpQuiet_step (fun K hK => ?_); go_simp; refine ⟨_, fun _ => rfl, ?_⟩; refine hK _ ?_; clear hK K))
          refine wpQuiet_nil ?_
          intro v
          go_wp2
          go_roundw
          case rel => exact ⟨k + 1, v, by omega, by rw [HS2.out, HE.out], by go_num, by first | rfl | trivial⟩
          case measure => simp [intOf]; omega
      · have d1 : ((xk : Int) == (sk : Int)) = false := by rw [beq_eq_false_iff_ne]; omega
        have d1' : (xk == sk) = false := by rw [beq_eq_false_iff_ne]; exact h1
        have HE : Hid (s2 = s1) := Lib.hid (by rw [HSt.out, if_neg (fun h => h1 h.1.1)])
        clear HSt h1
        go_upto_region 15 with fail
        refine wp_region_later v (by kernel_rfl) (by kernel_rfl) (fun _ => ?_)
        repeat (first | go_big_quiet_step (((go_at_call 8; exact (by first | exact K1.out _ | exact K2.out _)))) | (refine wpQuiet_step (fun K hK => ?_); go_simp; refine ⟨_, fun _ => rfl, ?_⟩; refine hK _ ?_; clear hK K))
        refine wpQuiet_nil ?_
        intro v
        go_wp2
        go_roundw
        case rel => exact ⟨k + 1, v, by omega, by rw [HS2.out, HE.out], by go_num, by first | rfl | trivial⟩
        case measure => simp [intOf]; omega
    · have hke : k = bit n := by omega
      subst hke
      clear hlt hk
      have hset8 : setTo X Y (bit n) < 256 := by rcases (setTo_com HX.out.zero HY.out.zero (bit n)).2 with h | h <;> omega
      have HBx : Hid (∀ b k, FirstB n (sz (setTo X Y (bit n))) X Y b → k ≤ al → (∀ j, j < k → X j + Y (al - j) ≠ most) → (X k + Y (al - k) = most ∨ k = al) → b = k) := Lib.hid (fun b k hb hk h1 h2 => by
        obtain ⟨b1, b2, b3⟩ := hb
        rw [HMost.out] at b2 b3
        have e : ∀ j, j < bit n → nand (bit n - 1) j = al - j := fun j hj => by rw [← all_sub hn hj, hal1]
        rw [e b b1] at b2
        have c1 : ¬ b < k := fun h => h1 b h b2
        have c2 : ¬ k < b := fun h => by
          have := b3 k h
          rw [e k (by omega)] at this
          rcases h2 with h2 | h2
          · exact this h2
          · omega
        omega)
      have HLu : Hid (∀ m q A G, HvL n X Y (fun t => F t n) p m A → HvL n X Y (fun t => F t n) p q G → m = q ∧ tabL m A = tabL q G) := Lib.hid (fun m q A G h g => HvL.uniq h g)
      have HLn : Hid (p ≠ 0 → HvL n X Y (fun t => F t n) p 0 (fun _ => 0)) := Lib.hid (fun h => ⟨fun _ => rfl, fun g => absurd g h⟩)
      have HLy : Hid (∀ A, (∀ j, j < most + 1 → BestOn (fun t => (ComP X Y t ∧ sz t = j) ∧ t < bit n) (fun t => F t n) (A j)) → HvL n X Y (fun t => F t n) 0 (most + 1) A) := Lib.hid (fun A h => ⟨fun g => absurd rfl g, fun _ => ⟨by rw [HMost.out], h⟩⟩)
      have KCm := Lib.hid (fun (v : Later C.heap.size C) => (KCm.out v).mono (fun e w h => (show RetP v.val.heap.size v.val (fun x w => ∃ b : Nat, x = .tuple #[.int .i64 (setTo X Y (bit n) : Nat), .int .i64 b, .int .i64 0] ∧ FirstB n (sz (setTo X Y (bit n))) X Y b) e w from h)))
      have KSs : Hid (∀ v : Later C.heap.size C, Calls Try.prog 8 #[.int .i64 (setTo X Y (bit n) : Nat)] v.val (Ret C.heap.size C (.int .i64 most))) := Lib.hid (fun v => by rw [← HMost.out]; exact KSz.out v _ hset8)
      generalize setTo X Y (bit n) = set at *
      have HKSo := Lib.hid hal
      have qv := (QC.out v).1
      go_wp2
      go_loopw [13] (fun bv wr => ∃ (k : Nat) (v : Later C.heap.size C), k ≤ al ∧ bv = .int .i64 k ∧ wr = v.val ∧ Hid (∀ j, j < k → X j + Y (al - j) ≠ most)) (fun bv _ => al - (intOf bv).toNat)
      case atStart => exact ⟨0, v, by omega, rfl, rfl, Lib.hid (fun j hj => by omega)⟩
      case round =>
        clear qv v
        obtain ⟨k, v, hk, rfl, rfl, HN⟩ := hrel
        go_upto_region 17 with fail
        go_cut [103] from 85 to 103 (fun t_ w_ => ∃ (bb : Bool) (v : Later C.heap.size C), t_ = .bool bb ∧ w_ = v.val ∧ (bb = true → k < al ∧ X k + Y (al - k) ≠ most) ∧ (bb = false → ∀ b, FirstB n (sz set) X Y b → b = k))
        case first => as_aux_lemma =>
          rcases nlt k al with ⟨hlt, dk⟩ | ⟨hlt, dk⟩
          · have fx : ∀ w : Later C.heap.size C, w.val.cell? ⟨gx, k, none⟩ = some (.int .i64 (X k : Int)) := fun w => (HTx.out.keep_at w.below hgx).cell (by omega)
            have fy : ∀ w : Later C.heap.size C, w.val.cell? ⟨gy, al - k, none⟩ = some (.int .i64 (Y (al - k) : Int)) := fun w => (HTy.out.keep_at w.below hgy).cell (by omega)
            have hx8 : X k ≤ 8 := Nat.le_trans (HX.out.le_sz (by omega)) (sz_le _)
            have hy8 : Y (al - k) ≤ 8 := Nat.le_trans (HY.out.le_sz (by omega)) (sz_le _)
            have w0 : IntKind.i64.wrap ((al : Int) - (k : Int)) = ((al - k : Nat) : Int) := by rw [IntWalk.i64_in _ (by omega)]; omega
            have hkb : k < bit n := by omega
            have hlb : al - k < bit n := by omega
            have HMy : Hid (X k + Y (al - k) = most → (∀ b, FirstB n (sz set) X Y b → b = k)) := Lib.hid (fun h b hb => HBx.out b k hb (by omega) HN.out (.inl h))
            have w1 := IntWalk.i64_in ((X k : Int) + (Y (al - k) : Int)) (by omega)
            by_cases hd : X k + Y (al - k) = most
            · have d4 : ((X k : Int) + (Y (al - k) : Int) != (most : Int)) = false := by rw [bne_eq_false_iff_eq]; omega
              have d4' : (X k + Y (al - k) != most) = false := by rw [bne_eq_false_iff_eq]; omega
              have HFB := Lib.hid (HMy.out hd)
              clear HMy HBx hd
              generalize X k = xk at fx hx8 w1 d4 d4' ⊢
              generalize hlk : al - k = lk at fy hy8 w0 hlb w1 d4 d4' ⊢
              clear hlk
              generalize Y lk = yk at fy hy8 w1 d4 d4' ⊢
              refine wp_region_later v (by kernel_rfl) (by kernel_rfl) (fun _ => ?_)
              repeat (first | go_big_quiet_step (((go_at_call 8; exact (KSs.out _)))) | (refine wpQuiet_step (fun K hK => ?_); go_simp; refine ⟨_, fun _ => rfl, ?_⟩; refine hK _ ?_; clear hK K))
              refine wpQuiet_nil ?_
              intro v
              go_wp2
              go_meet
              case rel => exact ⟨false, v, by first | rfl | simp, rfl, (fun h => by cases h), fun _ => HFB.out⟩
            · have d4 : ((X k : Int) + (Y (al - k) : Int) != (most : Int)) = true := by rw [bne_iff_ne]; omega
              have d4' : (X k + Y (al - k) != most) = true := by rw [bne_iff_ne]; omega
              have HNe := Lib.hid (And.intro hlt hd)
              clear HMy HBx hd HN
              generalize X k = xk at fx hx8 w1 d4 d4' ⊢
              generalize hlk : al - k = lk at fy hy8 w0 hlb w1 d4 d4' ⊢
              clear hlk
              generalize Y lk = yk at fy hy8 w1 d4 d4' ⊢
              refine wp_region_later v (by kernel_rfl) (by kernel_rfl) (fun _ => ?_)
              repeat (first | go_big_quiet_step (((go_at_call 8; exact (KSs.out _)))) | (refine wpQuiet_step (fun K hK => ?_); go_simp; refine ⟨_, fun _ => rfl, ?_⟩; refine hK _ ?_; clear hK K))
              refine wpQuiet_nil ?_
              intro v
              go_wp2
              go_meet
              case rel => exact ⟨true, v, by first | rfl | simp, rfl, fun _ => HNe.out, (fun h => by cases h)⟩
          · have hke : k = al := by omega
            have HFB : Hid (∀ b, FirstB n (sz set) X Y b → b = k) := Lib.hid (fun b hb => HBx.out b k hb (by omega) HN.out (.inr hke))
            refine wp_region_later v (by kernel_rfl) (by kernel_rfl) (fun _ => ?_)
            repeat (first | go_big_quiet_step ((fail)) | (refine wpQuiet_step (fun K hK => ?_); go_simp; refine ⟨_, fun _ => rfl, ?_⟩; refine hK _ ?_; clear hK K))
            refine wpQuiet_nil ?_
            intro v
            go_wp2
            go_meet
            case rel => exact ⟨false, v, by first | rfl | simp, rfl, (fun h => by cases h), fun _ => HFB.out⟩
        case rest => as_aux_lemma =>
          clear v
          obtain ⟨bb, v, rfl, rfl, hb1, hb2⟩ := hcut
          cases bb
          · have HFB := Lib.hid (hb2 rfl)
            clear hb1 hb2 HN HBx
            have qv := (QC.out v).1
            go_upto_if 111 with (first | (go_at_call 9; (with_reducible refine (KP.out v).mono ?_); rintro e _ ⟨rfl, v1, rfl⟩) | fail)
            clear KP qv
            go_cut [15, 20, 21, 22] from 110 to 160 (fun l_ _ _ _ w_ => ∃ (v : Later C.heap.size C) (ad : Option Addr) (cp m : Nat) (A : Nat → Int), w_ = v.val ∧ l_ = .slice ad m cp ∧ HvL n X Y (fun t => F t n) p m A ∧ Reads v.val.heap.size v.val (.slice ad m cp) (tabL m A))
            case first => as_aux_lemma =>
              clear v HFB HLu KIs KBs KC1 KC2 KCm KHv KSp HLs HL1 HC0 HCs HCl
              by_cases hp0 : p = 0
              case neg =>
                have d0 : (p == 0) = false := by rw [beq_eq_false_iff_ne]; exact hp0
                have HN := Lib.hid (HLn.out hp0)
                clear hp0
                go_wp2
                go_meet
                case rel => exact ⟨v1, none, 0, 0, fun _ => 0, rfl, rfl, HN.out, Reads.nil _ _⟩
              subst hp0
              have KWf : Hid (∀ (v : Later C.heap.size C) (t : Nat), t < bit n → Calls Try.prog 10 #[.slice ax ws.length cw, .int .i64 t] v.val (Ret v.val.heap.size v.val (.int .i64 (F t n)))) := Lib.hid (KWe.out rfl)
              clear KWe
              clear HLn
              go_wp2
              go_loopw [15, 20] (fun lv nv wr => ∃ (q cp : Nat) (A : Nat → Int) (ad : Option Addr) (v : Later C.heap.size C), q ≤ most + 1 ∧ lv = .slice ad q cp ∧ nv = .int .i64 q ∧ wr = v.val ∧ Hid (Own C.heap.size v.val ad cp (tabL q A)) ∧ Hid (∀ j, j < q → BestOn (fun t => (ComP X Y t ∧ sz t = j) ∧ t < bit n) (fun t => F t n) (A j))) (fun _ nv _ => most + 1 - (intOf nv).toNat)
              case atStart => exact ⟨0, 0, fun _ => 0, none, v1, by omega, rfl, rfl, rfl, Lib.hid (Own.nil _ _), Lib.hid (fun j hj => by omega)⟩
              case round =>
                clear v1
                obtain ⟨q, cp, A1, ad, v, hq, rfl, rfl, rfl, HO, HB⟩ := hrel
                rcases nle q most with ⟨hlq, dq⟩ | ⟨hlq, dq⟩
                · have K1 : Hid (Calls Try.prog 8 #[.int .i64 set] v.val (Ret v.val.heap.size v.val (.int .i64 most))) := Lib.hid (by
                    rw [← HMost.out]; exact c_size (Later.self v.val) set hset8)
                  go_upto_region 25 with (first | (go_at_call 8; (with_reducible refine (K1.out).mono ?_); rintro e _ ⟨rfl, v1, rfl⟩) | fail)
                  have HO1 : Hid (Own C.heap.size v1.val ad cp (tabL q A1)) := Lib.hid (HO.out.keep v1.below)
                  obtain ⟨v2, hv2⟩ : ∃ v2 : Later C.heap.size C, v2.val = v1.val := ⟨v.up v1, rfl⟩
                  rw [← hv2] at HO1 ⊢
                  clear hv2 v1 HO K1
                  have hbase := v2.size
                  go_wp2
                  go_loopw [21, 22] (fun bv tv wr => ∃ (K : Nat) (b : Int) (v : Later v2.val.heap.size v2.val), K ≤ bit n ∧ bv = .int .i64 b ∧ tv = .int .i64 ((K : Int) - 1) ∧ wr = v.val ∧ Hid (BestOn (fun t => ((ComP X Y t ∧ sz t = q) ∧ t < bit n) ∧ K ≤ t) (fun t => F t n) b)) (fun _ tv _ => (intOf tv + 1).toNat)
                  case atStart => exact ⟨bit n, -1, Later.self v2.val, by omega, rfl, vint (by omega), rfl, Lib.hid (BestOn.none (fun t h => by omega))⟩
                  case round =>
                    obtain ⟨K, b, y, hK, rfl, rfl, rfl, HBs⟩ := hrel
                    cases K with
                    | zero =>
                      have HBe : Hid (BestOn (fun t => (ComP X Y t ∧ sz t = q) ∧ t < bit n) (fun t => F t n) b) := Lib.hid (HBs.out.congr (fun t => ⟨fun h => h.1, fun h => ⟨h, by omega⟩⟩))
                      have HOy : Hid (Own C.heap.size y.val ad cp (tabL q A1)) := Lib.hid (HO1.out.keep y.below)
                      have HTp := Lib.hid (tabL_push q A1 b)
                      obtain ⟨x, hx⟩ : ∃ x : Later C.heap.size C, x.val = y.val := ⟨v2.up y, rfl⟩
                      rw [← hx] at HOy ⊢
                      have hxs := x.size
                      rw [show (((0 : Nat) : Int) - 1) = -1 by omega]
                      clear HBs HO1 hK hx
                      go_wp2_with (first | (at_builtin; refine wpList_push2 (B := C.heap.size) (W := C) (w := x.val) x.below hxs rfl _ _ rfl (tabL q A1) q (tabL_len _ _) ad cp b rfl HOy.out rfl (by omega) ?_; intro u2 g2 cp2 ho1 hk1; have HO2 := Lib.hid ho1; clear ho1 hk1) | fail)
                      go_roundw
                      case rel => exact ⟨q + 1, cp2, fun j => if j = q then b else A1 j, some ⟨g2, 0, none⟩, u2, by omega, by first | rfl | go_num, by go_num, by first | rfl | trivial, Lib.hid (by rw [HTp.out]; exact HO2.out), Lib.hid (fun j hj => by
                        by_cases e : j = q
                        · subst e; show BestOn _ _ (if j = j then b else A1 j); rw [if_pos rfl]; exact HBe.out
                        · show BestOn _ _ (if j = q then b else A1 j); rw [if_neg e]; exact HB.out j (by omega))⟩
                      case measure => simp [intOf]; omega
                    | succ K =>
                      rw [show (((K + 1 : Nat) : Int) - 1) = (K : Int) by omega]
                      have hKb : K < bit n := by omega
                      have hK8 : K < 256 := by omega
                      have fx : ∀ w : Later v2.val.heap.size v2.val, w.val.cell? ⟨gx, K, none⟩ = some (.int .i64 (X K : Int)) := fun w => (HTx.out.keep_at (v2.up w).below hgx).cell hKb
                      have fy : ∀ w : Later v2.val.heap.size v2.val, w.val.cell? ⟨gy, K, none⟩ = some (.int .i64 (Y K : Int)) := fun w => (HTy.out.keep_at (v2.up w).below hgy).cell hKb
                      have KS1 : Hid (∀ w : Later v2.val.heap.size v2.val, Calls Try.prog 8 #[.int .i64 K] w.val (Ret v2.val.heap.size v2.val (.int .i64 (sz K)))) := Lib.hid (fun w => c_size w K hK8)
                      have KW1 : Hid (∀ w : Later v2.val.heap.size v2.val, Calls Try.prog 10 #[.slice ax ws.length cw, .int .i64 K] w.val (Ret v2.val.heap.size v2.val (.int .i64 (F K n)))) := Lib.hid (fun w => ret_to w (KWf.out (v2.up w) K hKb))
                      have HNo : Hid (¬ (ComP X Y K ∧ sz K = q) → BestOn (fun t => ((ComP X Y t ∧ sz t = q) ∧ t < bit n) ∧ K ≤ t) (fun t => F t n) b) := Lib.hid (fun h => HBs.out.down_no (fun c => h c.1))
                      have HYes : Hid (X K = q → Y K = q → sz K = q → (b < 0 ∨ ∃ t : Nat, b = t ∧ F t n ≤ F K n) → BestOn (fun t => ((ComP X Y t ∧ sz t = q) ∧ t < bit n) ∧ K ≤ t) (fun t => F t n) (K : Int)) := Lib.hid (fun h1 h2 h3 h4 => HBs.out.down_new ⟨⟨⟨by omega, by omega⟩, h3⟩, hKb⟩ h4)
                      have HKp : Hid (∀ t : Nat, b = t → F K n < F t n → BestOn (fun t => ((ComP X Y t ∧ sz t = q) ∧ t < bit n) ∧ K ≤ t) (fun t => F t n) b) := Lib.hid (fun t h1 h2 => by
                        have h3 := HBs.out
                        rw [h1] at h3 ⊢
                        exact h3.down_keep h2)
                      have HbT : Hid (0 ≤ b → ∃ tb : Nat, b = tb ∧ tb < bit n) := Lib.hid (fun h => by
                        rcases HBs.out with ⟨h1, _⟩ | ⟨t, h1, h2, _⟩
                        · omega
                        · exact ⟨t, h1, h2.1.2⟩)
                      have HCo : Hid (ComP X Y K ∧ sz K = q → sz K = q ∧ X K = q ∧ Y K = q) := Lib.hid (fun h => ⟨h.2, by rw [h.1.1]; exact h.2, by rw [h.1.2]; exact h.2⟩)
                      clear HBs
                      generalize hsk : sz K = sk at *
                      generalize hxk : X K = xk at *
                      generalize hyk : Y K = yk at *
                      clear hsk hxk hyk
                      by_cases h1 : sk = q
                      case neg =>
                        have d1 : ((sk : Int) == (q : Int)) = false := by rw [beq_eq_false_iff_ne]; omega
                        have d1' : (sk == q) = false := by rw [beq_eq_false_iff_ne]; exact h1
                        have HN := Lib.hid (HNo.out (fun c => h1 (HCo.out c).1))
                        clear HNo HYes HKp HbT HCo h1
                        go_wp2_with (first | (go_at_call 8; (with_reducible refine (KS1.out y).mono ?_); rintro e _ ⟨rfl, y1, rfl⟩; have fxa := fx y1; have fya := fy y1) | fail)
                        go_roundw
                        case rel => exact ⟨K, b, y1, by omega, by first | rfl | trivial, by go_num, by first | rfl | trivial, HN⟩
                        case measure => first | (simp [intOf]; done) | (simp [intOf]; omega)
                      have d1 : ((sk : Int) == (q : Int)) = true := by rw [beq_iff_eq]; omega
                      have d1' : (sk == q) = true := by rw [beq_iff_eq]; exact h1
                      by_cases h2 : xk = q
                      case neg =>
                        have d2 : ((xk : Int) == (q : Int)) = false := by rw [beq_eq_false_iff_ne]; omega
                        have d2' : (xk == q) = false := by rw [beq_eq_false_iff_ne]; exact h2
                        have HN := Lib.hid (HNo.out (fun c => h2 (HCo.out c).2.1))
                        clear HNo HYes HKp HbT HCo h1 h2
                        go_wp2_with (first | (go_at_call 8; (with_reducible refine (KS1.out y).mono ?_); rintro e _ ⟨rfl, y1, rfl⟩; have fxa := fx y1; have fya := fy y1) | fail)
                        go_roundw
                        case rel => exact ⟨K, b, y1, by omega, by first | rfl | trivial, by go_num, by first | rfl | trivial, HN⟩
                        case measure => first | (simp [intOf]; done) | (simp [intOf]; omega)
                      have d2 : ((xk : Int) == (q : Int)) = true := by rw [beq_iff_eq]; omega
                      have d2' : (xk == q) = true := by rw [beq_iff_eq]; exact h2
                      by_cases h3 : yk = q
                      case neg =>
                        have d3 : ((yk : Int) == (q : Int)) = false := by rw [beq_eq_false_iff_ne]; omega
                        have d3' : (yk == q) = false := by rw [beq_eq_false_iff_ne]; exact h3
                        have HN := Lib.hid (HNo.out (fun c => h3 (HCo.out c).2.2))
                        clear HNo HYes HKp HbT HCo h1 h2 h3
                        go_wp2_with (first | (go_at_call 8; (with_reducible refine (KS1.out y).mono ?_); rintro e _ ⟨rfl, y1, rfl⟩; have fxa := fx y1; have fya := fy y1) | fail)
                        go_roundw
                        case rel => exact ⟨K, b, y1, by omega, by first | rfl | trivial, by go_num, by first | rfl | trivial, HN⟩
                        case measure => first | (simp [intOf]; done) | (simp [intOf]; omega)
                      have d3 : ((yk : Int) == (q : Int)) = true := by rw [beq_iff_eq]; omega
                      have d3' : (yk == q) = true := by rw [beq_iff_eq]; exact h3
                      have HYes := Lib.hid (HYes.out h2 h3 h1)
                      clear HNo HCo h1 h2 h3
                      rcases ilt b 0 with ⟨h4, d4⟩ | ⟨h4, d4⟩
                      · have HN := Lib.hid (HYes.out (.inl h4))
                        clear HYes HKp HbT h4
                        go_wp2_with (first | (go_at_call 8; (with_reducible refine (KS1.out y).mono ?_); rintro e _ ⟨rfl, y1, rfl⟩; have fxa := fx y1; have fya := fy y1) | fail)
                        go_roundw
                        case rel => exact ⟨K, K, y1, by omega, by first | rfl | trivial, by go_num, by first | rfl | trivial, HN⟩
                        case measure => first | (simp [intOf]; done) | (simp [intOf]; omega)
                      · obtain ⟨tb, rfl, htb⟩ := HbT.out h4
                        have KW2 : Hid (∀ w : Later v2.val.heap.size v2.val, Calls Try.prog 10 #[.slice ax ws.length cw, .int .i64 tb] w.val (Ret v2.val.heap.size v2.val (.int .i64 (F tb n)))) := Lib.hid (fun w => ret_to w (KWf.out (v2.up w) tb htb))
                        have HYe := Lib.hid (fun h => HYes.out (.inr ⟨tb, rfl, h⟩))
                        have HKe := Lib.hid (HKp.out tb rfl)
                        generalize hfk : F K n = fk at KW1 HYe HKe
                        generalize hft : F tb n = ft at KW2 HYe HKe
                        clear HYes HKp HbT hfk hft
                        rcases ile ft fk with ⟨h5, d5⟩ | ⟨h5, d5⟩
                        · have HN := Lib.hid (HYe.out h5)
                          clear HYe HKe h4 h5
                          go_wp2_with (first | (go_at_call 8; (with_reducible refine (KS1.out y).mono ?_); rintro e _ ⟨rfl, y1, rfl⟩; have fxa := fx y1; have fya := fy y1) | (go_at_call 10; (with_reducible refine (KW1.out y1).mono ?_); rintro e _ ⟨rfl, y2, rfl⟩) | (go_at_call 10; (with_reducible refine (KW2.out y2).mono ?_); rintro e _ ⟨rfl, y3, rfl⟩) | fail)
                          go_roundw
                          case rel => exact ⟨K, K, y3, by omega, by first | rfl | trivial, by go_num, by first | rfl | trivial, HN⟩
                          case measure => first | (simp [intOf]; done) | (simp [intOf]; omega)
                        · have HN := Lib.hid (HKe.out h5)
                          clear HYe HKe h4 h5
                          go_wp2_with (first | (go_at_call 8; (with_reducible refine (KS1.out y).mono ?_); rintro e _ ⟨rfl, y1, rfl⟩; have fxa := fx y1; have fya := fy y1) | (go_at_call 10; (with_reducible refine (KW1.out y1).mono ?_); rintro e _ ⟨rfl, y2, rfl⟩) | (go_at_call 10; (with_reducible refine (KW2.out y2).mono ?_); rintro e _ ⟨rfl, y3, rfl⟩) | fail)
                          go_roundw
                          case rel => exact ⟨K, tb, y3, by omega, by first | rfl | trivial, by go_num, by first | rfl | trivial, HN⟩
                          case measure => first | (simp [intOf]; done) | (simp [intOf]; omega)
                · have hqe : q = most + 1 := by omega
                  subst hqe
                  have HN := Lib.hid (HLy.out A1 HB.out)
                  have K1 : Hid (Calls Try.prog 8 #[.int .i64 set] v.val (Ret v.val.heap.size v.val (.int .i64 most))) := Lib.hid (by
                    rw [← HMost.out]; exact c_size (Later.self v.val) set hset8)
                  go_wp2_with (first | (go_at_call 8; (with_reducible refine (K1.out).mono ?_); rintro e _ ⟨rfl, v1, rfl⟩) | fail)
                  go_meet
                  case rel => exact ⟨v.up v1, ad, cp, most + 1, A1, rfl, rfl, HN.out, by
                    have := Reads.of_own (HO.out.keep v1.below)
                    rwa [tabL_len] at this⟩
            case rest => as_aux_lemma =>
              clear v1 KWe HLy HLn v
              obtain ⟨v, ad, cp, m, A1, rfl, rfl, hL, hR⟩ := hcut
              have HL := Lib.hid hL
              have HTl := Lib.hid (tabL_len m A1)
              have HR : Hid (Reads v.val.heap.size v.val (.slice ad m cp) (tabL m A1)) := Lib.hid hR
              clear hL hR
              have H1 : Hid (∀ x : Later v.val.heap.size v.val, ∃ w : Later C.heap.size C, w.val = x.val) := Lib.hid (fun x => ⟨v.up x, rfl⟩)
              have hm9 : m ≤ 4611686018427387904 := by
                by_cases c : p = 0
                · have := (HL.out.2 c).1
                  have := sz_le (setTo X Y (bit n))
                  omega
                · have := HL.out.1 c; omega
              obtain ⟨x, hx⟩ : ∃ x : Later v.val.heap.size v.val, x.val = v.val := ⟨Later.self _, rfl⟩
              rw [← hx]
              clear hx
              generalize v.val = V1 at *
              clear v
              have QV : Hid (∀ w : Later V1.heap.size V1, w.val.cell? ⟨g, 0, none⟩ = some (.int .i64 n) ∧ w.val.cell? ⟨g, 1, none⟩ = some (.slice a l1.length cap) ∧ w.val.cell? ⟨g', 0, none⟩ = some (.int .i64 n) ∧ w.val.cell? ⟨g', 1, none⟩ = some (.slice b l2.length capb)) := Lib.hid (fun w => by
                obtain ⟨x, hx⟩ := H1.out w
                rw [← hx]; exact QC.out x)
              have HVf : Hid (∀ w : Later V1.heap.size V1, ∃ x : Later B W, x.val = w.val) := Lib.hid (fun w => by
                obtain ⟨x, hx⟩ := H1.out w
                rw [← hx]; exact HVB.out x)
              have KIs := Lib.hid (ret_base H1.out KIs.out)
              have KBs := Lib.hid (fun (v : Later V1.heap.size V1) (o : Bool) => ret_base H1.out (fun w => KBs.out w o) v)
              have KC1 := Lib.hid (fun (v : Later V1.heap.size V1) (t : Nat) (ht : t < bit n) => ret_self H1.out (fun w => KC1.out w t ht) v)
              have KC2 := Lib.hid (fun (v : Later V1.heap.size V1) (t : Nat) (ht : t < bit n) => ret_self H1.out (fun w => KC2.out w t ht) v)
              have KCm := Lib.hid (fun (v : Later V1.heap.size V1) => (show Calls Try.prog 13 #[.agg #[.int .i64 n, .slice a l1.length cap], .agg #[.int .i64 n, .slice b l2.length capb]] v.val (Ret V1.heap.size V1 (.tuple #[.int .i64 set, .int .i64 k, .int .i64 0])) from by
                refine (retP_base H1.out KCm.out v).mono ?_
                rintro e w ⟨_, rfl, ⟨b, rfl, hb⟩, u, rfl⟩
                rw [HFB.out b hb]
                exact ⟨rfl, v.up u, rfl⟩))
              have KHv := Lib.hid (retP_base H1.out KHv.out)
              have KSp := Lib.hid (fun (v : Later V1.heap.size V1) (spv : Nat) h1 h2 => ret_self H1.out (fun w => KSp.out w spv h1 h2) v)
              obtain ⟨spv, hspy, hspn⟩ : ∃ spv : Nat, (isSet n sv → ∃ s : Nat, sv = s ∧ s < bit n ∧ spv = CC s (2 * n)) ∧ (¬ isSet n sv → spv = 0) := by
                by_cases c : isSet n sv
                · have hs := c
                  unfold isSet at hs
                  rw [all_nat] at hs
                  exact ⟨CC sv.toNat (2 * n), fun _ => ⟨sv.toNat, by omega, by omega, rfl⟩, fun h => absurd c h⟩
                · exact ⟨0, fun h => absurd h c, fun _ => rfl⟩
              have KS := Lib.hid (fun v : Later V1.heap.size V1 => KSp.out v spv hspy hspn)
              obtain ⟨ge, hge⟩ : ∃ ge, ge = errno (decide (isSet n sv)) 1 := ⟨_, rfl⟩
              have KBz : Hid (∀ v : Later V1.heap.size V1, Calls Try.prog 5 #[.bool (decide (isSet n sv)), .int .i64 1] v.val (Ret V1.heap.size V1 (.int .i64 ge))) := Lib.hid (fun v => by rw [hge]; exact KBs.out v _)
              rw [← hge] at KS
              have Hge := Lib.hid hge
              have Hspy := Lib.hid hspy
              have Hspn := Lib.hid hspn
              clear hge hspy hspn KSp KBs H1 QC HVB HTx HTy HVY
              have qx := (QV.out x).1
              generalize hbs : decide (isSet n sv) = bs at KIs KBz
              clear hbs
              go_upto_if 167 with (first | (go_at_call 11; (with_reducible refine (KIs.out x).mono ?_); rintro e _ ⟨rfl, x1, rfl⟩) | (go_at_call 5; (with_reducible refine (KBz.out x1).mono ?_); rintro e _ ⟨rfl, x2, rfl⟩) | fail)
              clear KIs KBz qx
              go_cut [14, 23] from 166 to 180 (fun x_ _ w_ => x_ = .int .i64 spv ∧ ∃ x : Later V1.heap.size V1, w_ = x.val)
              case first => as_aux_lemma =>
                clear KS KHv KCm HFB HLu
                by_cases c : isSet n sv
                case neg =>
                  have e0 := Hspn.out c
                  have e1 := Hge.out
                  rw [decide_eq_false c] at e1
                  subst e0
                  have e2 : ge = 1 := e1
                  subst e2
                  clear Hspn Hspy Hge e1 c
                  go_wp2
                  go_meet
                  case rel => exact ⟨by first | rfl | trivial, x2, rfl⟩
                obtain ⟨s0, rfl, hs0, hspe⟩ := Hspy.out c
                have e1 := Hge.out
                rw [decide_eq_true c] at e1
                have e2 : ge = 0 := e1
                subst e2
                have HSe := Lib.hid hspe
                clear Hspn Hspy Hge e1 c hspe
                rw [show ((0 : Int) == 0) = true from rfl]
                go_wp2
                go_loopw [14, 23] (fun px nx wr => ∃ (j : Nat) (x : Later V1.heap.size V1), j ≤ 2 * n ∧ px = .int .i64 (CC s0 j) ∧ nx = .int .i64 j ∧ wr = x.val) (fun _ nx _ => 2 * n - (intOf nx).toNat)
                case atStart => exact ⟨0, x2, by omega, by rw [HC0.out], rfl, rfl⟩
                case round =>
                  clear x2 x1 x
                  obtain ⟨j, x, hj, rfl, rfl, rfl⟩ := hrel
                  have qx := (QV.out x).1
                  have w2 := IntWalk.i64_in (2 * (n : Int)) (by omega)
                  have w2' := IntWalk.i64_in ((n : Int) * 2) (by omega)
                  by_cases hlj : j < 2 * n
                  · have dj : decide ((j : Int) < 2 * (n : Int)) = true := decide_eq_true (by omega)
                    have hcl := HCl.out s0 j hs0
                    have HN := Lib.hid (HCs.out s0 j)
                    generalize CC s0 j = c1 at *
                    have K1 : Hid (Calls Try.prog 12 #[.agg #[.int .i64 n, .slice a l1.length cap], .int .i64 c1] x.val.drew (Ret x.val.drew.heap.size x.val.drew (.int .i64 (C1 c1)))) := Lib.hid (KC1.out x.drew c1 hcl)
                    have K2 : Hid (∀ y : Later x.val.drew.heap.size x.val.drew, Calls Try.prog 12 #[.agg #[.int .i64 n, .slice b l2.length capb], .int .i64 (C1 c1)] y.val (Ret y.val.heap.size y.val (.int .i64 (C2 (C1 c1))))) := Lib.hid (fun y => KC2.out (x.drew.up y) _ (HL1.out c1 hcl))
                    have s00 := QV.out x
                    have s01 : ∀ y : Later x.val.drew.heap.size x.val.drew, y.val.cell? ⟨g, 0, none⟩ = some (.int .i64 n) ∧ y.val.cell? ⟨g, 1, none⟩ = some (.slice a l1.length cap) ∧ y.val.cell? ⟨g', 0, none⟩ = some (.int .i64 n) ∧ y.val.cell? ⟨g', 1, none⟩ = some (.slice b l2.length capb) := fun y => QV.out (x.drew.up y)
                    have HVx : Hid (∀ y : Later x.val.drew.heap.size x.val.drew, ∃ w : Later V1.heap.size V1, w.val = y.val) := Lib.hid (fun y => ⟨x.drew.up y, rfl⟩)
                    generalize C1 c1 = c3 at *
                    generalize C2 c3 = c4 at *
                    go_upto_region 37 with fail
                    clear qx w2 w2' dj
                    go_region_held3 (fun w' => w'.cell? ⟨g, 0, none⟩ = some (.int .i64 n) ∧ w'.cell? ⟨g, 1, none⟩ = some (.slice a l1.length cap) ∧ w'.cell? ⟨g', 0, none⟩ = some (.int .i64 n) ∧ w'.cell? ⟨g', 1, none⟩ = some (.slice b l2.length capb)) (first | exact s00 | exact s01 (y1.up y2) | exact s01 y1 | fail) (first | (go_at_call 12; (with_reducible refine (K1.out).mono ?_); rintro e _ ⟨rfl, y1, rfl⟩) | (go_at_call 12; (with_reducible refine (K2.out y1).mono ?_); rintro e _ ⟨rfl, y2, rfl⟩) | fail)
                    obtain ⟨xx, hxx⟩ := HVx.out (y1.up y2)
                    go_wp2
                    go_roundw
                    case rel => exact ⟨j + 1, xx, by omega, by first | (rw [HN.out]; done) | rfl | trivial, by go_num, by first | exact hxx.symm | rfl⟩
                    case measure => simp [intOf]; omega
                  · have hje : j = 2 * n := by omega
                    subst hje
                    have dj : decide (((2 * n : Nat) : Int) < 2 * (n : Int)) = false := decide_eq_false (by omega)
                    rw [← HSe.out]
                    go_wp2
                    go_meet
                    case rel => exact ⟨by first | rfl | trivial, x, rfl⟩
              case rest => as_aux_lemma =>
                clear x2 x1 x
                obtain ⟨rfl, x, rfl⟩ := hcut
                clear KC1 KC2 HCs HCl HC0 HLs HL1
                obtain ⟨q0, q1, q2, q3⟩ := QV.out x
                have HLl : Hid (∀ (w : Later V1.heap.size V1) (y : Later w.val.heap.size w.val) (ad2 : Option Addr) (cp2 m2 : Nat) (A2 : Nat → Int), HvL n X Y (fun t => F t n) p m2 A2 → Reads y.val.heap.size y.val (.slice ad2 m2 cp2) (tabL m2 A2) → m2 = m ∧ ∀ z : Later y.val.heap.size y.val, Calls Try.prog 17 #[.slice ad2 m2 cp2, .int .i64 p, .slice ad m cp, .int .i64 p] z.val (Ret y.val.heap.size y.val (.bool true))) := Lib.hid (fun w y ad2 cp2 m2 A2 h r => by
                  obtain ⟨e1, e2⟩ := HLu.out _ _ _ _ h HL.out
                  subst e1
                  refine ⟨rfl, fun z => ?_⟩
                  rw [e2] at r
                  have hr : Reads y.val.heap.size y.val (.slice ad m2 cp) (tabL m2 A1) := (HR.out.keep (w.up y).below).mono (w.up y).size
                  exact list_reads z (tabL m2 A1) m2 ad2 ad cp2 cp p r hr (by rw [HTl.out]; exact hm9) (fun h => HL.out.1 h))
                clear HLu HTl HR Hspy HFB
                go_upto_region 40 with (first | (go_at_call 13; (with_reducible refine (KCm.out x).mono ?_); rintro e _ ⟨rfl, x1, rfl⟩; obtain ⟨q0, q1, q2, q3⟩ := QV.out x1) | (go_at_call 14; (with_reducible refine (KHv.out x1).mono ?_); rintro e _ ⟨_, rfl, ⟨ad2, cp2, m2, A2, rfl, hL2, hR2⟩, y1, rfl⟩) | fail)
                obtain ⟨e2, K2⟩ := HLl.out x1 y1 ad2 cp2 m2 A2 hL2 hR2
                have HE2 := Lib.hid e2
                clear e2
                have KL := Lib.hid K2
                clear K2 hR2 hL2 HLl
                obtain ⟨x2, hx2⟩ : ∃ x2 : Later V1.heap.size V1, x2.val = y1.val := ⟨x1.up y1, rfl⟩
                obtain ⟨q0, q1, q2, q3⟩ := QV.out x2
                have KL2 : Hid (∀ z : Later x2.val.heap.size x2.val, Calls Try.prog 17 #[.slice ad2 m2 cp2, .int .i64 p, .slice ad m cp, .int .i64 p] z.val (Ret x2.val.heap.size x2.val (.bool true))) := Lib.hid (by rw [hx2]; exact KL.out)
                have KS2 : Hid (Calls Try.prog 15 #[.agg #[.int .i64 n, .slice a l1.length cap], .agg #[.int .i64 n, .slice b l2.length capb], .int .i64 sv] x2.val (Ret x2.val.heap.size x2.val (.tuple #[.int .i64 spv, .int .i64 ge]))) := Lib.hid (by
                  exact KS.out x2)
                have HVg : Hid (∀ w : Later x2.val.heap.size x2.val, ∃ x : Later B W, x.val = w.val) := Lib.hid (fun w => HVf.out (x2.up w))
                have KO1 : Hid (∀ (w : Later x2.val.heap.size x2.val) (t : Nat), Calls Try.prog 16 #[.int .i64 t, .int .i64 0, .int .i64 t, .int .i64 0] w.val (Ret x2.val.heap.size x2.val (.bool true))) := Lib.hid (fun w t => c_one_yes w t)
                have KO2 : Hid (∀ w : Later x2.val.heap.size x2.val, Calls Try.prog 16 #[.int .i64 spv, .int .i64 ge, .int .i64 spv, .int .i64 ge] w.val (Ret x2.val.heap.size x2.val (.bool true))) := Lib.hid (fun w => c_one w spv ge spv ge rfl (by
                  by_cases c : isSet n sv
                  · have e1 := Hge.out
                    rw [decide_eq_true c] at e1
                    rw [if_pos (show ge = 0 from e1)]
                  · rw [Hspn.out c, if_neg (by rw [Hge.out, decide_eq_false c]; decide)]; rfl))
                rw [← hx2]
                clear hx2 KCm KHv KL KS
                go_wp2_with (first | (go_at_call 15; (with_reducible refine (KS2.out).mono ?_); rintro e _ ⟨rfl, y3, rfl⟩) | (go_at_call 16; (with_reducible refine (KO1.out y3 _).mono ?_); rintro e _ ⟨rfl, y4, rfl⟩) | (go_at_call 16; (with_reducible refine (KO1.out y4 _).mono ?_); rintro e _ ⟨rfl, y5, rfl⟩) | (go_at_call 17; (with_reducible refine (KL2.out y5).mono ?_); rintro e _ ⟨rfl, y6, rfl⟩) | (go_at_call 16; (with_reducible refine (KO2.out y6).mono ?_); rintro e _ ⟨rfl, y7, rfl⟩) | fail)
                go_ret
                obtain ⟨w, hw⟩ := HVg.out y7
                exact Ret.of ⟨w, hw⟩ rfl
          · have HNe := Lib.hid (hb1 rfl)
            have hkl := (hb1 rfl).1
            clear hb1 hb2 HBx
            go_wp2
            go_roundw
            case rel => exact ⟨k + 1, v, by omega, by go_num, by first | rfl | trivial, Lib.hid (fun j hj => by
              by_cases e : j = k
              · subst e; exact HNe.out.2
              · exact HN.out j (by omega))⟩
            case measure => simp [intOf]; omega
end Go.Proofs.Ytenbeiafdiifgaa
