
/-
  rotaref.Isle: how many parts edges leave.
-/
import Derived.Deep.CutRange
import Derived.Deep.CutBlock
import Derived.Test.YtffnpokceomncaaPk08
import Derived.Laws.OwnMore
import Derived.Deep.RegionHeld3
namespace Go.Proofs.Ytffnpokceomncaa
open Go.RowKit
set_option linter.unusedVariables false

/-- an appended row of whole numbers, as a table -/
def OTab (B : Nat) (w : World) (g cap n : Nat) (A : Nat → Nat) : Prop := w.ownsRow B 3 1 (.slice (some ⟨g, 0, none⟩) n cap) n ((List.range n).map (fun j => Value.int .i64 (A j : Int)))
theorem OTab.cell {B : Nat} {w : World} {g cap n : Nat} {A : Nat → Nat} (h : OTab B w g cap n A) {i : Nat} (hi : i < n) : w.cell? ⟨g, i, none⟩ = some (.int .i64 (A i : Int)) := by
  rw [World.ownsRow.cellAt h i (by omega)]
  simp [hi]
theorem OTab.frozen {B : Nat} {w : World} {g cap n : Nat} {A : Nat → Nat} (h : OTab B w g cap n A) (i : Nat) : w.frozen? ⟨g, i, none⟩ = false := World.ownsRow.frozenAt h i
theorem OTab.lt {B : Nat} {w : World} {g cap n : Nat} {A : Nat → Nat} (h : OTab B w g cap n A) : B ≤ g ∧ g < w.heap.size := World.ownsRow.lt h g rfl
theorem OTab.keep {B : Nat} {w w' : World} {g cap n : Nat} {A : Nat → Nat} (h : OTab B w g cap n A) (hb : Below w.heap.size w w') : OTab B w' g cap n A :=
  World.ownsRow.kept (row := none) h ⟨hb.os, hb.tape, hb.output, hb.size, fun k hk _ => hb.block k hk⟩ (.inr (by simp [Value.ownBlock]))
theorem OTab.congr {B : Nat} {w : World} {g cap n : Nat} {A A' : Nat → Nat} (h : OTab B w g cap n A) (e : ∀ j, j < n → A j = A' j) : OTab B w g cap n A' := by
  unfold OTab at h ⊢
  rwa [show (List.range n).map (fun j => Value.int .i64 (A' j : Int)) = (List.range n).map (fun j => Value.int .i64 (A j : Int)) from List.map_congr_left (fun j hj => by rw [e j (by simpa using hj)])]
theorem OTab.set {B : Nat} {w : World} {g cap n : Nat} {A A' : Nat → Nat} (h : OTab B w g cap n A) (i v : Nat) (e : ∀ j, j < n → A' j = if j = i then v else A j) : OTab B (w.setCell ⟨g, i, none⟩ (.int .i64 (v : Int))) g cap n A' := by
  have := (World.ownsRow.stored h i (.int .i64 (v : Int))).1
  unfold OTab
  rwa [show (List.range n).map (fun j => Value.int .i64 (A' j : Int)) = ((List.range n).map (fun j => Value.int .i64 (A j : Int))).set i (.int .i64 (v : Int)) from by
    apply List.ext_getElem
    · simp
    · intro k h1 h2
      simp at h1
      rw [List.getElem_set]
      simp only [List.getElem_map, List.getElem_range]
      rw [e k h1]
      by_cases c : k = i
      · subst c; simp
      · rw [if_neg c, if_neg (fun h => c h.symm)]]
theorem OTab.of_own {B : Nat} {w : World} {ad : Option Addr} {cap n : Nat} (hn : 1 ≤ n) (h : Own B w ad cap (ints (List.range n))) : ∃ g, ad = some ⟨g, 0, none⟩ ∧ OTab B w g cap n (fun j => j) := by
  have hl : (ints (List.range n)).length = n := by rw [ints_len]; simp
  unfold Own at h
  rw [hl] at h
  rcases h.2 with ⟨e, hn0⟩ | ⟨g, c, cur, e, _⟩
  · omega
  · have e2 : ad = some ⟨g, 0, none⟩ := by simp only [Value.slice.injEq] at e; exact e.1
    subst e2
    refine ⟨g, rfl, ?_⟩
    unfold OTab
    have : (ints (List.range n)).map (Value.int .i64) = (List.range n).map (fun j : Nat => Value.int .i64 (j : Int)) := by unfold ints; rw [List.map_map]; rfl
    rwa [this] at h

set_option maxRecDepth 100000 in
set_option maxHeartbeats 8000000 in
theorem c_isle {B : Nat} {W : World} (u : Later B W) (n x R : Nat) (es : List (Int × Int)) (a : Option Addr) (cap : Nat) (h : EdgesAt B W a es) (hG : isGraph (n : Int) es) (hx : x < 256) (hR : Reps n es x R) :
    Calls Try.prog 47 #[.agg #[.int .i64 n, .slice a es.length cap], .int .i64 x] u.val (Ret B W (.int .i64 (sz R))) := by
  have hn7 : n ≤ 7 := by have := hG.2.1; omega
  have hn1 : 1 ≤ n := by have := hG.1; omega
  have he8 : es.length ≤ 8 := hG.2.2.1
  have T0 : Hid (Two (u.val.alloc (.cells #[.int .i64 n, .slice a es.length cap] 42)) u.val.heap.size 42 (.int .i64 n) (.slice a es.length cap)) := Lib.hid (Two.new _ _ _ _)
  have hrr : u.val.heap.size < (u.val.alloc (.cells #[.int .i64 n, .slice a es.length cap] 42)).heap.size := by simp
  have HV : Hid (∀ v : Later (u.val.alloc (.cells #[.int .i64 n, .slice a es.length cap] 42)).heap.size (u.val.alloc (.cells #[.int .i64 n, .slice a es.length cap] 42)), ∃ w : Later B W, w.val = v.val) := Lib.hid (fun v => ⟨(u.alloc _).up v, rfl⟩)
  have HE : Hid (EdgesAt (u.val.alloc (.cells #[.int .i64 n, .slice a es.length cap] 42)).heap.size (u.val.alloc (.cells #[.int .i64 n, .slice a es.length cap] 42)) a es) := Lib.hid (h.to (u.alloc _))
  have HG := Lib.hid hG
  have HI := Lib.hid (isle_is (Grf.of hG) hR)
  have HL7 : Hid (∀ i, i < es.length → vA es i < n ∧ vB es i < n) := Lib.hid (Grf.of hG).lt
  clear h hG hR
  go_enter Try.func47, Try.ntmps47
  go_wp2
  generalize hr2 : u.val.heap.size = g0 at *
  generalize u.val.alloc (.cells #[.int .i64 n, .slice a es.length cap] 42) = W1 at *
  clear hr2 u
  obtain ⟨v0, hv0⟩ : ∃ v0 : Later W1.heap.size W1, v0.val = W1 := ⟨Later.self _, rfl⟩
  rw [← hv0]
  clear hv0
  have q0 : ∀ v : Later W1.heap.size W1, v.val.cell? ⟨g0, 0, none⟩ = some (.int .i64 n) := fun v => (T0.out.keep_at v.below hrr).c0
  have q1 : ∀ v : Later W1.heap.size W1, v.val.cell? ⟨g0, 1, none⟩ = some (.slice a es.length cap) := fun v => (T0.out.keep_at v.below hrr).c1
  go_loopw [5, 6] (fun o i wr => ∃ (k : Nat) (ad : Option Addr) (cp : Nat) (v : Later W1.heap.size W1), k ≤ n ∧ i = .int .i64 k ∧ o = .slice ad (ints (List.range k)).length cp ∧ wr = v.val ∧ Hid (Own W1.heap.size v.val ad cp (ints (List.range k)))) (fun _ i _ => n - (intOf i).toNat)
  case atStart => exact ⟨0, none, 0, v0, by omega, rfl, rfl, rfl, Lib.hid (Own.nil _ _)⟩
  case round =>
    clear v0
    obtain ⟨k, ad, cp, v, hk, rfl, rfl, rfl, HO⟩ := hrel
    by_cases hlt : k < n
    · have HLn : Hid ((ints (List.range k)).length ≤ 8) := Lib.hid (by rw [ints_len]; simp; omega)
      have HS : Hid (ints (List.range (k+1)) = ints (List.range k) ++ [(k : Int)]) := Lib.hid (by rw [List.range_succ, ints_snoc])
      generalize ints (List.range k) = Lk at *
      go_wp2_with (first | (at_builtin; refine wpList_push (B := W1.heap.size) (W := W1) (w := v.val) v.below v.size rfl _ _ rfl Lk ad cp (k : Int) rfl HO.out rfl (by have := HLn.out; omega) ?_; intro u2 ad2 cp2 hown))
      go_roundw
      case rel => exact ⟨k+1, ad2, cp2, u2, by omega, by go_num, by rw [HS.out]; simp, rfl, by rw [HS.out]; exact Lib.hid hown⟩
      case measure => simp [intOf]; omega
    · have hke : k = n := by omega
      subst hke
      obtain ⟨g, rfl, hO⟩ := OTab.of_own hn1 HO.out
      have HT : Hid (OTab W1.heap.size v.val g cp k (lblT es x 0)) := Lib.hid hO
      have hgB := hO.lt.1
      clear HO hO hlt hk
      rw [show (ints (List.range k)).length = k by rw [ints_len]; simp]
      go_wp2
      go_loopw [7] (fun i wr => ∃ (t : Nat) (v : Later W1.heap.size W1), t ≤ k ∧ i = .int .i64 t ∧ wr = v.val ∧ Hid (OTab W1.heap.size v.val g cp k (lblT es x t))) (fun i _ => k - (intOf i).toNat)
      case atStart => exact ⟨0, v, by omega, rfl, rfl, HT⟩
      case round =>
        clear HT v
        obtain ⟨t, v, ht, rfl, rfl, HT⟩ := hrel
        by_cases hlt : t < k
        · have HNext : Hid (lblT es x (t+1) = lblE es x (lblT es x t) es.length) := Lib.hid rfl
          have HPos : Hid (∀ e i, e ≤ es.length → i < k → lblE es x (lblT es x t) e i < 8) := Lib.hid (fun e i he hi => by
            have h1 := lblE_mono es x (lblT es x t) i (Nat.zero_le e)
            have h2 : ∀ t, lblT es x t i ≤ i := by
              intro t
              induction t with
              | zero => exact Nat.le_refl _
              | succ t ih =>
                have : lblT es x (t+1) i ≤ lblT es x t i := lblE_mono es x (lblT es x t) i (Nat.zero_le _)
                omega
            have h3 := h2 t
            have h4 : lblE es x (lblT es x t) 0 i = lblT es x t i := rfl
            omega)
          have HT1 : Hid (OTab W1.heap.size v.val g cp k (lblE es x (lblT es x t) 0)) := HT
          generalize lblT es x t = p at *
          clear HT
          go_wp2
          go_loopw [8] (fun i wr => ∃ (q : Nat) (v : Later W1.heap.size W1), q ≤ es.length ∧ i = .int .i64 q ∧ wr = v.val ∧ Hid (OTab W1.heap.size v.val g cp k (lblE es x p q))) (fun i _ => es.length - (intOf i).toNat)
          case atStart => exact ⟨0, v, by omega, rfl, rfl, HT1⟩
          case round =>
            clear HT1 v
            obtain ⟨q, v, hq, rfl, rfl, HT⟩ := hrel
            by_cases hlt2 : q < es.length
            · obtain ⟨be, offe, rfl, hbe, hce⟩ := HE.out.at hlt2
              have e0 := (hce v q hlt2).1
              have e1 := (hce v q hlt2).2
              have HX := HG.out.2.2.2 q hlt2
              obtain ⟨y, hy⟩ := Int.eq_ofNat_of_zero_le HX.1
              obtain ⟨z, hz⟩ := Int.eq_ofNat_of_zero_le HX.2.1
              have hvy : vA es q = y := by unfold vA; rw [hy]; rfl
              have hvz : vB es q = z := by unfold vB; rw [hz]; rfl
              rw [hy, hz] at HX
              have hyk : y < k := by omega
              have hzk : z < k := by omega
              rw [hy] at e0
              rw [hz] at e1
              have HSt : Hid (lblE es x p (q+1) = fun j => if x.testBit q = true ∧ (j = y ∨ j = z) then min (lblE es x p q y) (lblE es x p q z) else lblE es x p q j) := Lib.hid (by rw [← hvy, ← hvz]; rfl)
              have hPy := HPos.out q y hq hyk
              have hPz := HPos.out q z hq hzk
              clear HX hy hz hce hvy hvz
              generalize lblE es x p q = c at *
              have T1 : Hid (Two (v.val.alloc (.cells #[.int .i64 y, .int .i64 z] 68)) v.val.heap.size 68 (.int .i64 y) (.int .i64 z)) := Lib.hid (Two.new _ _ _ _)
              have c0 : ∀ w : Later (v.val.alloc (.cells #[.int .i64 y, .int .i64 z] 68)).heap.size (v.val.alloc (.cells #[.int .i64 y, .int .i64 z] 68)), w.val.cell? ⟨v.val.heap.size, 0, none⟩ = some (.int .i64 y) := fun w => (T1.out.keep w.below).c0
              have c1 : ∀ w : Later (v.val.alloc (.cells #[.int .i64 y, .int .i64 z] 68)).heap.size (v.val.alloc (.cells #[.int .i64 y, .int .i64 z] 68)), w.val.cell? ⟨v.val.heap.size, 1, none⟩ = some (.int .i64 z) := fun w => (T1.out.keep w.below).c1
              have HTa : Hid (OTab W1.heap.size (v.val.alloc (.cells #[.int .i64 y, .int .i64 z] 68)) g cp k c) := Lib.hid (HT.out.keep ((Below.refl _ _).alloc (Nat.le_refl _) _))
              have HTw : Hid (∀ w : Later (v.val.alloc (.cells #[.int .i64 y, .int .i64 z] 68)).heap.size (v.val.alloc (.cells #[.int .i64 y, .int .i64 z] 68)), OTab W1.heap.size w.val g cp k c) := Lib.hid (fun w => HTa.out.keep w.below)
              have d0 : ∀ w : Later (v.val.alloc (.cells #[.int .i64 y, .int .i64 z] 68)).heap.size (v.val.alloc (.cells #[.int .i64 y, .int .i64 z] 68)), w.val.cell? ⟨g, y, none⟩ = some (.int .i64 (c y : Int)) := fun w => (HTw.out w).cell hyk
              have d1 : ∀ w : Later (v.val.alloc (.cells #[.int .i64 y, .int .i64 z] 68)).heap.size (v.val.alloc (.cells #[.int .i64 y, .int .i64 z] 68)), w.val.cell? ⟨g, z, none⟩ = some (.int .i64 (c z : Int)) := fun w => (HTw.out w).cell hzk
              have f0 : ∀ w : Later (v.val.alloc (.cells #[.int .i64 y, .int .i64 z] 68)).heap.size (v.val.alloc (.cells #[.int .i64 y, .int .i64 z] 68)), w.val.frozen? ⟨g, y, none⟩ = false := fun w => (HTw.out w).frozen y
              have K0 : Hid (Calls Try.prog 38 #[.int .i64 x, .int .i64 q] (v.val.alloc (.cells #[.int .i64 y, .int .i64 z] 68)) (Ret (v.val.alloc (.cells #[.int .i64 y, .int .i64 z] 68)).heap.size (v.val.alloc (.cells #[.int .i64 y, .int .i64 z] 68)) (.bool (x.testBit q)))) := Lib.hid (c_in (Later.self (v.val.alloc (.cells #[.int .i64 y, .int .i64 z] 68))) x q (by omega) (by omega))
              have HVa : Hid (∀ w : Later (v.val.alloc (.cells #[.int .i64 y, .int .i64 z] 68)).heap.size (v.val.alloc (.cells #[.int .i64 y, .int .i64 z] 68)), ∃ w' : Later W1.heap.size W1, w'.val = w.val) := Lib.hid (fun w => ⟨(v.alloc _).up w, rfl⟩)
              rcases btf (x.testBit q) with g1 | g1
              · rw [g1] at K0
                have HSt2 : Hid (lblE es x p (q+1) = fun j => if j = y ∨ j = z then min (c y) (c z) else c j) := Lib.hid (by rw [HSt.out]; funext j; simp [g1])
                clear HSt g1
                have f1 : ∀ (w : Later (v.val.alloc (.cells #[.int .i64 y, .int .i64 z] 68)).heap.size (v.val.alloc (.cells #[.int .i64 y, .int .i64 z] 68))) (m : Nat), (w.val.setCell ⟨g, y, none⟩ (.int .i64 (m : Int))).cell? ⟨g, z, none⟩ = some (.int .i64 ((if z = y then m else c z : Nat) : Int)) := fun w m => ((HTw.out w).set (A' := fun j => if j = y then m else c j) y m (fun j _ => rfl)).cell hzk
                have f2 : ∀ w : Later (v.val.alloc (.cells #[.int .i64 y, .int .i64 z] 68)).heap.size (v.val.alloc (.cells #[.int .i64 y, .int .i64 z] 68)), w.val.frozen? ⟨g, z, none⟩ = false := fun w => (HTw.out w).frozen z
                have HT2 : Hid (∀ (w : Later (v.val.alloc (.cells #[.int .i64 y, .int .i64 z] 68)).heap.size (v.val.alloc (.cells #[.int .i64 y, .int .i64 z] 68))) (m : Nat), m = min (c y) (c z) → OTab W1.heap.size ((w.val.setCell ⟨g, y, none⟩ (.int .i64 (m : Int))).setCell ⟨g, z, none⟩ (.int .i64 (m : Int))) g cp k (lblE es x p (q+1))) := Lib.hid (fun w m hm => by
                  rw [HSt2.out]
                  refine ((HTw.out w).set (A' := fun j => if j = y then m else c j) y m (fun j _ => rfl)).set z m (fun j _ => ?_)
                  rw [← hm]
                  by_cases h1 : j = z
                  · simp [h1]
                  · by_cases h2 : j = y
                    · simp [h1, h2]
                    · simp [h1, h2])
                have hgv : g < v.val.heap.size := HT.out.lt.2
                clear HTw HTa T1 HSt2 HT
                generalize c y = cy at *
                generalize c z = cz at *
                rcases ilt (cy : Int) (cz : Int) with ⟨k1, m1⟩ | ⟨k1, m1⟩ <;> rcases ilt (cz : Int) (cy : Int) with ⟨k2, m2⟩ | ⟨k2, m2⟩
                all_goals first | (exfalso; omega) | skip
                all_goals
                  go_wp2_with (first | (go_at_call 38; ((with_reducible refine (K0.out).mono ?_); rintro e _ ⟨rfl, v2, rfl⟩)))
                  refine wp_region_later v2 (by kernel_rfl) (by kernel_rfl) (fun _ => ?_)
                  repeat (first | go_big_quiet_step ((fail)) | (refine wpQuiet_step (fun K hK => ?_); go_simp; refine ⟨_, fun _ => rfl, ?_⟩; refine hK _ ?_; clear hK K))
                  refine wpQuiet_nil ?_
                  intro v2
                  go_upto_region 15 with fail
                  have s0 : v2.val.drew.cell? ⟨v.val.heap.size, 0, none⟩ = some (.int .i64 (y : Int)) ∧ v2.val.drew.cell? ⟨v.val.heap.size, 1, none⟩ = some (.int .i64 (z : Int)) := ⟨c0 v2.drew, c1 v2.drew⟩
                  have x1 : v2.val.cell? ⟨g, y, none⟩ = some (.int .i64 (cy : Int)) := d0 v2
                  have x2 : v2.val.frozen? ⟨g, y, none⟩ = false := f0 v2
                  obtain ⟨ka, x3a⟩ : ∃ k : Nat, (v2.val.setCell ⟨g, y, none⟩ (.int .i64 (cy : Int))).cell? ⟨g, z, none⟩ = some (.int .i64 (k : Int)) := ⟨_, f1 v2 cy⟩
                  obtain ⟨kb, x3b⟩ : ∃ k : Nat, (v2.val.setCell ⟨g, y, none⟩ (.int .i64 (cz : Int))).cell? ⟨g, z, none⟩ = some (.int .i64 (k : Int)) := ⟨_, f1 v2 cz⟩
                  have x4 : v2.val.frozen? ⟨g, z, none⟩ = false := f2 v2
                  have hk : ∀ (X : World) (i : Nat) (o : Value), (X.cell? ⟨v.val.heap.size, 0, none⟩ = some (.int .i64 (y : Int)) ∧ X.cell? ⟨v.val.heap.size, 1, none⟩ = some (.int .i64 (z : Int))) → ((X.setCell ⟨g, i, none⟩ o).cell? ⟨v.val.heap.size, 0, none⟩ = some (.int .i64 (y : Int)) ∧ (X.setCell ⟨g, i, none⟩ o).cell? ⟨v.val.heap.size, 1, none⟩ = some (.int .i64 (z : Int))) := fun X i o h => ⟨by rw [World.cell?_setCell_far _ _ _ _ (by show g ≠ v.val.heap.size; omega)]; exact h.1, by rw [World.cell?_setCell_far _ _ _ _ (by show g ≠ v.val.heap.size; omega)]; exact h.2⟩
                  clear c0 c1 d0 d1 f0 f1 f2
                  go_region_held3 (fun w' => w'.cell? ⟨v.val.heap.size, 0, none⟩ = some (.int .i64 (y : Int)) ∧ w'.cell? ⟨v.val.heap.size, 1, none⟩ = some (.int .i64 (z : Int))) (first | exact s0 | exact hk _ _ _ s0 | exact hk _ _ _ (hk _ _ _ s0)) (fail)
                  go_wp2
                  go_roundw
                  case rel =>
                    first
                    | exact ⟨q+1, (((v.alloc _).up v2.drew).set ⟨g, y, none⟩ hgB _).set ⟨g, z, none⟩ hgB _, by omega, by go_num, rfl, Lib.hid (HT2.out v2.drew cy (by omega))⟩
                    | exact ⟨q+1, (((v.alloc _).up v2.drew).set ⟨g, y, none⟩ hgB _).set ⟨g, z, none⟩ hgB _, by omega, by go_num, rfl, Lib.hid (HT2.out v2.drew cz (by omega))⟩
                  case measure => simp [intOf]; omega
              · rw [g1] at K0
                have HSt2 : Hid (lblE es x p (q+1) = c) := Lib.hid (by rw [HSt.out]; funext j; simp [g1])
                clear HSt g1
                go_wp2_with (first | (go_at_call 38; ((with_reducible refine (K0.out).mono ?_); rintro e _ ⟨rfl, v2, rfl⟩)))
                go_roundw
                case rel => exact ⟨q+1, (v.alloc _).up v2, by omega, by go_num, rfl, by rw [HSt2.out]; exact Lib.hid (HTw.out v2)⟩
                case measure => simp [intOf]; omega
            · have hqe : Hid (q = es.length) := Lib.hid (by omega)
              go_wp2
              go_roundw
              case rel => exact ⟨t+1, v, by omega, by go_num, rfl, by rw [HNext.out, ← hqe.out]; exact HT⟩
              case measure => simp [intOf]; omega
        · have hte : t = k := by omega
          subst hte
          have HCle : Hid (∀ i, cntTo (lblT es x t) i ≤ i) := Lib.hid (cntTo_le _)
          have HCs : Hid (∀ i, cntTo (lblT es x t) (i+1) = if lblT es x t i = i then cntTo (lblT es x t) i + 1 else cntTo (lblT es x t) i) := Lib.hid (fun i => rfl)
          go_wp2
          go_loopw [11, 12] (fun o i wr => ∃ (j : Nat) (v' : Later W1.heap.size W1), j ≤ t ∧ i = .int .i64 j ∧ o = .int .i64 (cntTo (lblT es x t) j) ∧ wr = v'.val ∧ Hid (OTab W1.heap.size v'.val g cp t (lblT es x t))) (fun _ i _ => t - (intOf i).toNat)
          case atStart => exact ⟨0, v, by omega, rfl, rfl, rfl, HT⟩
          case round =>
            clear HT v
            obtain ⟨j, v, hj, rfl, rfl, rfl, HT⟩ := hrel
            by_cases hlt3 : j < t
            · have d0 := HT.out.cell hlt3
              have hS := HCs.out j
              have hle := HCle.out j
              have hHS := Lib.hid hS
              generalize cntTo (lblT es x t) j = cj at *
              by_cases he : lblT es x t j = j
              · have dd : (((lblT es x t j : Nat) : Int) == (j : Int)) = true := by rw [he]; simp
                rw [if_pos he] at hHS
                clear hS he
                go_wp2
                go_roundw
                case rel => exact ⟨j+1, v, by omega, by go_num, vint (by rw [hHS.out]; omega), rfl, HT⟩
                case measure => simp [intOf]; omega
              · have dd : (((lblT es x t j : Nat) : Int) == (j : Int)) = false := by rw [beq_eq_false_iff_ne]; omega
                rw [if_neg he] at hHS
                clear hS he
                go_wp2
                go_roundw
                case rel => exact ⟨j+1, v, by omega, by go_num, vint (by rw [hHS.out]), rfl, HT⟩
                case measure => simp [intOf]; omega
            · have hje : Hid (j = t) := Lib.hid (by omega)
              go_wp2
              go_ret
              exact Ret.of (HV.out v) (by rw [hje.out, HI.out]; rfl)

end Go.Proofs.Ytffnpokceomncaa
