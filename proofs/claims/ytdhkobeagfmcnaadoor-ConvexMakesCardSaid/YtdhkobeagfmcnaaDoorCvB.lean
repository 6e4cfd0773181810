
/-
  rotaref.Tree, rotaref.Ordered.
-/
import Derived.Test.YtdhkobeagfmcnaaDoorCvA
namespace Go.Proofs.YtdhkobeagfmcnaaDoor
open Go.RowKit
set_option linter.unusedVariables false

set_option maxRecDepth 100000 in
set_option maxHeartbeats 20000000 in
theorem c_refTree {B : Nat} {W : World} (u : Later B W) (n : Nat) (es : List (Int × Int)) (a : Option Addr) (cap : Nat) (he : EdgesAt B W a es) (hG : isGraph (n : Int) es) :
    Calls Tryd.prog 10 #[.agg #[.int .i64 n, .slice a es.length cap]] u.val (RetInts B W (ints (grown n (treeMay es)))) := by
  have hn8 : n ≤ 8 := by have := hG.2.1; omega
  have T0 : Two (u.val.alloc (.cells #[.int .i64 n, .slice a es.length cap] 24)) u.val.heap.size 24 (.int .i64 n) (.slice a es.length cap) := Two.new _ _ _ _
  have hr : u.val.heap.size < (u.val.alloc (.cells #[.int .i64 n, .slice a es.length cap] 24)).heap.size := by simp
  have hE : EdgesAt (u.val.alloc (.cells #[.int .i64 n, .slice a es.length cap] 24)).heap.size (u.val.alloc (.cells #[.int .i64 n, .slice a es.length cap] 24)) a es := he.to (u.alloc _)
  have HV : Hid (∀ v : Later (u.val.alloc (.cells #[.int .i64 n, .slice a es.length cap] 24)).heap.size (u.val.alloc (.cells #[.int .i64 n, .slice a es.length cap] 24)), ∃ w : Later B W, w.val = v.val) := Lib.hid (fun v => ⟨(u.alloc _).up v, rfl⟩)
  have q0 : (u.val.alloc (.cells #[.int .i64 n, .slice a es.length cap] 24)).cell? ⟨u.val.heap.size, 0, none⟩ = some (.int .i64 n) := T0.c0
  have KG : Hid (Calls Tryd.prog 15 #[.int .i64 n, .func (.func 21) #[] #[.pointer (some ⟨u.val.heap.size, 0, none⟩)]] (u.val.alloc (.cells #[.int .i64 n, .slice a es.length cap] 24)) (RetInts (u.val.alloc (.cells #[.int .i64 n, .slice a es.length cap] 24)).heap.size (u.val.alloc (.cells #[.int .i64 n, .slice a es.length cap] 24)) (ints (grown n (treeMay es))))) := Lib.hid (c_grown (Later.self (u.val.alloc (.cells #[.int .i64 n, .slice a es.length cap] 24))) n hn8 21 #[.pointer (some ⟨u.val.heap.size, 0, none⟩)] (treeMay es) (fun args w => by kernel_rfl) (fun x v s i hs hi _ => by
    have hb := bit_le n hn8
    exact c_treeTell v n s i u.val.heap.size es a cap (by omega) (by omega) (Nat.lt_of_lt_of_le hr x.size) (T0.keep x.below) (hE.to x) hG))
  clear T0 hE he hG hr
  generalize grown n (treeMay es) = L at *
  go_enter Tryd.func10, Tryd.ntmps10
  go_wp2_with (first | (go_at_call 15; (with_reducible refine (KG.out).mono ?_); rintro e _ ⟨_, rfl, ⟨ad, cp, rfl, hI, hc⟩, v2, rfl⟩))
  go_ret
  exact RetP.of (HV.out v2) ⟨ad, cp, rfl, hI, hc⟩

set_option maxRecDepth 100000 in
set_option maxHeartbeats 20000000 in
theorem c_ordTell {B : Nat} {W : World} (u : Later B W) (n s i gb : Nat) (hn : n ≤ 8) (es : List (Int × Int)) (a : Option Addr) (cap : Nat) (hlen : es.length ≤ 4611686018427387904) (hs : s < 256) (hgb : gb < B) (hbox : W.cell? ⟨gb, 0, none⟩ = some (.slice a es.length cap)) (he : EdgesAt B W a es) (hG : edgesTo (n : Int) es es.length) :
    Calls Tryd.prog 18 #[.int .i64 s, .int .i64 i, .pointer (some ⟨gb, 0, none⟩)] u.val (Ret B W (.bool (ordMay es s i))) := by
  have r0 : ∀ w : Later B W, w.val.cell? ⟨gb, 0, none⟩ = some (.slice a es.length cap) := fun w => by rw [w.cell hgb]; exact hbox
  have HE := Lib.hid he
  have HG := Lib.hid hG
  have HR := Lib.hid (@ordMay_iff es s i)
  clear hbox he hG
  generalize ordMay es s i = r at *
  go_enter Tryd.func18, Tryd.ntmps18
  go_wp2
  go_loopw [6] (fun x wr => ∃ (k : Nat) (v : Later B W), k ≤ es.length ∧ x = .int .i64 k ∧ wr = v.val ∧ Hid (∀ j, j < k → vB es j = i → s.testBit (vA es j) = true)) (fun x _ => es.length - (intOf x).toNat)
  case atStart => exact ⟨0, u, by omega, rfl, rfl, Lib.hid (fun j hj => by omega)⟩
  case round =>
    clear u
    obtain ⟨k, v, hk, rfl, rfl, hf⟩ := hrel
    by_cases hlt : k < es.length
    · obtain ⟨be, offe, rfl, hbe, hce⟩ := HE.out.at (k := k) hlt
      have HX := HG.out k hlt
      obtain ⟨x, hx⟩ := Int.eq_ofNat_of_zero_le HX.1
      obtain ⟨y, hy⟩ := Int.eq_ofNat_of_zero_le HX.2.1
      have e1 := (hce v k hlt).1
      have e2 := (hce v k hlt).2
      rw [hx] at e1 HX
      rw [hy] at e2 HX
      have hx8 : x < 8 := by omega
      have hA : vA es k = x := by unfold vA; rw [hx, Int.toNat_natCast]
      have hB : vB es k = y := by unfold vB; rw [hy, Int.toNat_natCast]
      have HNo : Hid (y = i → s.testBit x = false → r = false) := Lib.hid (fun h1 h2 => by
        cases hr : r
        · rfl
        · have := HR.out.1 hr k hlt (by rw [hB, h1])
          rw [hA, h2] at this
          cases this)
      have HYes : Hid ((y = i → s.testBit x = true) → ∀ j, j < k + 1 → vB es j = i → s.testBit (vA es j) = true) := Lib.hid (fun h j hj hb => by
        by_cases c : j = k
        · subst c; rw [hA]; exact h (by rw [← hB, hb])
        · exact hf.out j (by omega) hb)
      have KI := Lib.hid (c_in v s x (by omega) (by omega))
      have r1 := r0 v
      clear HX hx hy hce hA hB hf
      rcases ieq (y : Int) (i : Int) with ⟨g1, d1, d1'⟩ | ⟨g1, d1, d1'⟩
      · rcases btf (s.testBit x) with g2 | g2
        · have HN := Lib.hid (HYes.out (fun _ => g2))
          rw [g2] at KI
          clear HNo HYes g1 g2
          go_wp2_with (first | (go_at_call 19; (with_reducible refine (KI.out).mono ?_); rintro e _ ⟨rfl, v6, rfl⟩))
          go_roundw
          case rel => exact ⟨k+1, v6, by omega, by go_num, rfl, HN⟩
          case measure => simp [intOf]; omega
        · have HN := Lib.hid (HNo.out (by omega) g2)
          rw [g2] at KI
          clear HNo HYes g1 g2
          go_wp2_with (first | (go_at_call 19; (with_reducible refine (KI.out).mono ?_); rintro e _ ⟨rfl, v6, rfl⟩))
          go_ret
          exact Ret.mk v6 (vbool HN.out.symm)
      · have HN := Lib.hid (HYes.out (fun c => absurd c (by omega)))
        clear HNo HYes g1 KI
        go_wp2
        go_roundw
        case rel => exact ⟨k+1, v, by omega, by go_num, rfl, HN⟩
        case measure => simp [intOf]; omega
    · have hke : k = es.length := by omega
      subst hke
      have HN : Hid (r = true) := Lib.hid (HR.out.2 hf.out)
      have r1 := r0 v
      go_wp2
      go_ret
      exact Ret.mk v (vbool HN.out.symm)

end Go.Proofs.YtdhkobeagfmcnaaDoor
