
/-
  rotalaw.ValuesSays, where the values are wrong.
-/
import Derived.Test.YtmhjhdgaecdloaaVaF
import Derived.Test.YtmhjhdgaecdloaaVaM
import Derived.Test.YtmhjhdgaecdloaaOnes
namespace Go.Proofs.Ytmhjhdgaecdloaa
open Go.RowKit
set_option linter.unusedVariables false

set_option maxRecDepth 100000 in
set_option maxHeartbeats 40000000 in
theorem law_val_no {B : Nat} {W : World} (u : Later B W) (n : Int) (vl : List (Int × Int)) (a : Option Addr) (cap : Nat) (h : EdgesAt B W a vl) (hlen : vl.length ≤ 17592186044416) (e : Int) (he : VlIs n vl e) (h0 : e ≠ 0) (ws : List Int) (b : Option Addr) (capb : Nat) :
    Calls Try.prog 3 #[.int .i64 n, .slice a vl.length cap, .slice b ws.length capb] u.val (Ret B W (.bool true)) := by
  have K1 := Lib.hid (c_refValues u n vl a cap h hlen e he)
  have K2 := Lib.hid (fun v : Later B W => c_best_no v n vl a cap h hlen e he h0 (.slice b ws.length capb))
  have K3 := Lib.hid (fun v : Later B W => c_initial_no v n (.slice a vl.length cap) (.slice b ws.length capb) 0 0 e h0 (fun z w => c_best_no w n vl a cap (h.to z) hlen e he h0 _))
  have HE := Lib.hid h
  have d0 : (e != 0) = true := by rw [bne_iff_ne]; exact h0
  have d1 : (e == 0) = false := by rw [beq_eq_false_iff_ne]; exact h0
  have HV := Lib.hid he
  have HN := Lib.hid h0
  clear h he h0
  go_enter Try.func3, Try.ntmps3
  go_upto_region 4 with (first | (go_at_call 4; (with_reducible refine (K1.out).mono ?_); rintro e _ ⟨rfl, v1, rfl⟩) | (go_at_call 5; (with_reducible refine (K2.out _).mono ?_); rintro e _ ⟨rfl, v2, rfl⟩) | (go_at_call 6; (with_reducible refine (K3.out _).mono ?_); rintro e _ ⟨rfl, v3, rfl⟩))
  clear K1 K2 K3
  have TM : Two (v3.val.alloc (.cells #[.int .i64 0, .slice none 0 0] 29)) v3.val.heap.size 29 (.int .i64 0) (.slice none 0 0) := Two.new _ _ _ _
  have m0 : ∀ w : Later (v3.val.alloc (.cells #[.int .i64 0, .slice none 0 0] 29)).heap.size (v3.val.alloc (.cells #[.int .i64 0, .slice none 0 0] 29)), w.val.cell? ⟨v3.val.heap.size, 0, none⟩ = some (.int .i64 0) := fun w => (TM.keep w.below).c0
  have m1 : ∀ w : Later (v3.val.alloc (.cells #[.int .i64 0, .slice none 0 0] 29)).heap.size (v3.val.alloc (.cells #[.int .i64 0, .slice none 0 0] 29)), w.val.cell? ⟨v3.val.heap.size, 1, none⟩ = some (.slice none 0 0) := fun w => (TM.keep w.below).c1
  have HE2 : EdgesAt (v3.val.alloc (.cells #[.int .i64 0, .slice none 0 0] 29)).heap.size (v3.val.alloc (.cells #[.int .i64 0, .slice none 0 0] 29)) a vl := HE.out.to (v3.alloc _)
  have HVz : Hid (∀ w : Later (v3.val.alloc (.cells #[.int .i64 0, .slice none 0 0] 29)).heap.size (v3.val.alloc (.cells #[.int .i64 0, .slice none 0 0] 29)), ∃ w' : Later B W, w'.val = w.val) := Lib.hid (fun w => ⟨(v3.alloc _).up w, rfl⟩)
  have K4 := Lib.hid (fun w : Later (v3.val.alloc (.cells #[.int .i64 0, .slice none 0 0] 29)).heap.size (v3.val.alloc (.cells #[.int .i64 0, .slice none 0 0] 29)) => c_dual_no w n vl a cap HE2 hlen e HV.out HN.out)
  have K5 := Lib.hid (fun w : Later (v3.val.alloc (.cells #[.int .i64 0, .slice none 0 0] 29)).heap.size (v3.val.alloc (.cells #[.int .i64 0, .slice none 0 0] 29)) => c_priced_no w n vl a cap HE2 hlen e HV.out HN.out (.slice b ws.length capb))
  have K6 := Lib.hid (fun w : Later (v3.val.alloc (.cells #[.int .i64 0, .slice none 0 0] 29)).heap.size (v3.val.alloc (.cells #[.int .i64 0, .slice none 0 0] 29)) => c_valCheck w n vl a cap HE2 hlen e HV.out)
  have KO := Lib.hid (fun w : Later (v3.val.alloc (.cells #[.int .i64 0, .slice none 0 0] 29)).heap.size (v3.val.alloc (.cells #[.int .i64 0, .slice none 0 0] 29)) => c_one_no w 0 e HN.out)
  have KT := Lib.hid (fun w : Later (v3.val.alloc (.cells #[.int .i64 0, .slice none 0 0] 29)).heap.size (v3.val.alloc (.cells #[.int .i64 0, .slice none 0 0] 29)) => c_told_no w e HN.out none 0)
  obtain ⟨y, hy⟩ : ∃ y : Later (v3.val.alloc (.cells #[.int .i64 0, .slice none 0 0] 29)).heap.size (v3.val.alloc (.cells #[.int .i64 0, .slice none 0 0] 29)), y.val = (v3.val.alloc (.cells #[.int .i64 0, .slice none 0 0] 29)) := ⟨Later.self _, rfl⟩
  rw [← hy]
  clear hy TM HE2 HV HN HE
  generalize v3.val.heap.size = gm at *
  generalize (v3.val.alloc (.cells #[.int .i64 0, .slice none 0 0] 29)) = V at *
  clear v1 v2 v3
  go_upto_region 20 with (first | (go_at_call 7; (with_reducible refine (K4.out _).mono ?_); rintro e _ ⟨rfl, y2, rfl⟩) | (go_at_call 8; (with_reducible refine (K5.out _).mono ?_); rintro e _ ⟨rfl, y3, rfl⟩) | (go_at_call 9; (with_reducible refine (K6.out _).mono ?_); rintro e _ ⟨rfl, y4, rfl⟩))
  go_wp2_with (first | (go_at_call 12; (with_reducible refine (KO.out _).mono ?_); rintro e _ ⟨rfl, y5, rfl⟩; have m0y := m0 y5; have m1y := m1 y5) | (go_at_call 13; (with_reducible refine (KT.out _).mono ?_); rintro e _ ⟨rfl, y6, rfl⟩))
  go_ret
  exact Ret.of (HVz.out y6) rfl

end Go.Proofs.Ytmhjhdgaecdloaa
