
/-
  minors.made.
-/
import Derived.Test.YtjpcelldbhdneaaSrt
import Derived.Test.YtjpcelldbhdneaaRowL
import Derived.Test.YtjpcelldbhdneaaMinPl
namespace Go.Proofs.Ytjpcelldbhdneaa
open Go.RowKit
set_option linter.unusedVariables false

theorem Own.far {B : Nat} {w : World} {ad : Option Addr} {cap : Nat} {xs : List Int} (h : Own B w ad cap xs) : ∀ off, ad ≠ some ⟨w.heap.size, off, none⟩ := fun off e => by
  rcases h.open with ⟨e1, _, _⟩ | ⟨g, cur, e1, h1, h2, _⟩
  · rw [e1] at e; cases e
  · rw [e1] at e
    cases e
    have := (Array.getElem?_eq_some_iff.1 h2).1
    omega

set_option maxRecDepth 100000 in
set_option maxHeartbeats 4000000 in
theorem c_made {B : Nat} {W : World} (u : Later B W) (m : Nat) (n : Int) (l : List Nat) (hl : ∀ s, s ∈ l → s < bit m) (hm : m ≤ 8) (hlen : l.length ≤ 1048576) (ad : Option Addr) (cap : Nat) (ho : Own B u.val ad cap (ints l)) :
    Calls Try.prog 164 #[.int .i64 n, .slice ad (ints l).length cap] u.val (RetP B W (MatO u.val.heap.size n (ints (those m (memB l))))) := by
  have hB := u.size
  have hb := bit_le m hm
  have XM : Hid (RowL (u.val.alloc (.cells #[.int .i64 0, .slice none 0 0] 24)) u.val.heap.size 24 [.int .i64 0, .slice none 0 0]) := Lib.hid (RowL.new _ _ _)
  have hZ : Hid (u.val.heap.size < (u.val.alloc (.cells #[.int .i64 0, .slice none 0 0] 24)).heap.size) := Lib.hid (by simp)
  have HF := Lib.hid ho.far
  have e1 : cpt (srt (ints l)) = ints (those m (memB l)) := cpt_srt hl
  have hAl : Hid ((ints (those m (memB l))).length ≤ 17592186044416) := Lib.hid (by rw [ints_len]; have := thoseTo_len (memB l) (bit m); have e : those m (memB l) = thoseTo (memB l) (bit m) := rfl; rw [e]; omega)
  have K1 : Hid (Calls Try.prog 108 #[.slice ad (ints l).length cap] (u.val.alloc (.cells #[.int .i64 0, .slice none 0 0] 24)) (fun e w' => e = .returned (.tuple #[]) ∧ ∃ v : Later B W, w' = v.val ∧ Own B v.val ad cap (srt (ints l)) ∧ (∀ k, k < (u.val.alloc (.cells #[.int .i64 0, .slice none 0 0] 24)).heap.size → (∀ off, ad ≠ some ⟨k, off, none⟩) → v.val.heap[k]? = (u.val.alloc (.cells #[.int .i64 0, .slice none 0 0] 24)).heap[k]?))) := Lib.hid (c_sort (u.alloc _) (ints l) ad cap (ho.alloc _) (by rw [ints_len]; omega))
  have K2 : Hid (∀ (v : Later B W), Own B v.val ad cap (srt (ints l)) → Calls Try.prog 177 #[.slice ad (ints l).length cap] v.val (fun e w' => e = .returned (.slice ad (ints (those m (memB l))).length cap) ∧ ∃ v2 : Later B W, w' = v2.val ∧ Own B v2.val ad cap (ints (those m (memB l))) ∧ (∀ k, k < v.val.heap.size → (∀ off, ad ≠ some ⟨k, off, none⟩) → v2.val.heap[k]? = v.val.heap[k]?))) := Lib.hid (fun v h => by
    have := c_compact v _ ad cap h
    rw [srt_len, e1] at this
    exact this)
  generalize ints (those m (memB l)) = A at *
  have K3 : Hid (∀ (v : Later B W), Own B v.val ad cap A → Calls Try.prog 176 #[.slice ad A.length cap] v.val (RetOwn v.val.heap.size v.val A)) := Lib.hid (fun v h => c_clone (Later.self v.val) A ad cap h.reads hAl.out)
  clear e1 hl ho
  go_enter Try.func164, Try.ntmps164
  go_upto_region 1 with fail
  generalize u.val.heap.size = g at *
  generalize (u.val.alloc (.cells #[.int .i64 0, .slice none 0 0] 24)) = Z at *
  go_wp2_with fail
  refine K1.out.mono ?_
  rintro e _ ⟨rfl, v1, rfl, hO1, hf1⟩
  have X1 : Hid (RowL v1.val g 24 [.int .i64 0, .slice none 0 0]) := Lib.hid (by
    show v1.val.heap[g]? = _
    rw [hf1 g hZ.out HF.out]; exact XM.out)
  have HO1 := Lib.hid hO1
  clear K1 XM hf1 hO1
  go_wp2_with fail
  refine (K2.out v1 HO1.out).mono ?_
  rintro e _ ⟨rfl, v2, rfl, hO2, hf2⟩
  have X2 : Hid (RowL v2.val g 24 [.int .i64 0, .slice none 0 0]) := Lib.hid (by
    show v2.val.heap[g]? = _
    rw [hf2 g X1.out.lt HF.out]; exact X1.out)
  have HO2 := Lib.hid hO2
  have hg2 : g < v2.val.heap.size := X2.out.lt
  clear K2 X1 hf2 hO2 HO1
  go_wp2_with fail
  refine (K3.out v2 HO2.out).mono ?_
  rintro e _ ⟨_, rfl, ⟨ad3, cp3, rfl, hO3⟩, v3, rfl⟩
  have f0 : ∀ (w : Later v2.val.heap.size v2.val), w.val.cell? ⟨g, 0, none⟩ = some (.int .i64 0) := fun w => (X2.out.keep_at w.below hg2).cell rfl
  have z0 : ∀ (w : Later v2.val.heap.size v2.val), w.val.frozen? ⟨g, 0, none⟩ = false := fun w => (X2.out.keep_at w.below hg2).fz 0
  have f1 : ∀ (w : Later v2.val.heap.size v2.val) (x0 : Value), (w.val.setCell ⟨g, 0, none⟩ x0).cell? ⟨g, 1, none⟩ = some (.slice none 0 0) := fun w x0 => ((X2.out.keep_at w.below hg2).set 0 x0).cell rfl
  have z1 : ∀ (w : Later v2.val.heap.size v2.val) (x0 : Value), (w.val.setCell ⟨g, 0, none⟩ x0).frozen? ⟨g, 1, none⟩ = false := fun w x0 => ((X2.out.keep_at w.below hg2).set 0 x0).fz 1
  go_wp2
  refine bodyPost_ret (results_cell_row rfl _ _ g 24 #[.int .i64 n, .slice ad3 A.length cp3] (0, 0) _ rfl (((X2.out.keep v3.below).set 0 _).set 1 _) Try.underlying24 rfl (by kernel_rfl)) rfl ?_
  obtain ⟨z1, hz1⟩ := later_set ⟨v2.up v3, rfl⟩ (g := g) (i := 0) hB (.int .i64 n)
  obtain ⟨z2, hz2⟩ := later_set ⟨z1, hz1⟩ (g := g) (i := 1) hB (.slice ad3 A.length cp3)
  refine RetP.of ⟨z2, hz2⟩ ?_
  exact ⟨_, _, rfl, ((hO3.set hg2 _).set hg2 _).mono (by omega)⟩

end Go.Proofs.Ytjpcelldbhdneaa
