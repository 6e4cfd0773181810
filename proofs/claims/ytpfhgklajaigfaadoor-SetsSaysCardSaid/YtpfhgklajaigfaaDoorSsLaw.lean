
/-
  rotalaw.SetsSays returns true, whatever it is handed.
-/
import Derived.Test.YtpfhgklajaigfaaDoorSsC
import Derived.Test.YtpfhgklajaigfaaDoorFam2
import Derived.Laws.StructEq
import Derived.Deep.CutRange
namespace Go.Proofs.YtpfhgklajaigfaaDoor
open Go.RowKit
set_option linter.unusedVariables false

set_option maxRecDepth 100000 in
set_option maxHeartbeats 8000000 in
theorem law_ss {B : Nat} {W : World} (u : Later B W) (n s : Int) (l : List Int) (a : Option Addr) (cap : Nat) (t : ByteArray) (h : IntsAt B W a l) (hlen : l.length ≤ 4611686018427387904) (ht : t.size ≤ 9223372036854775807) (T : ByteArray) (e8 : Int) (o8 : Bool)
    (hW : ∀ v : Later B W, Calls Tryd.prog 9 #[.int .i64 s] v.val (Ret B W (.tuple #[.string T, .int .i64 e8])))
    (hI : ∀ v : Later B W, Calls Tryd.prog 5 #[.int .i64 8, .int .i64 s] v.val (Ret B W (.bool o8)))
    (hc : (o8 = true ∧ e8 = 0 ∧ ∀ v : Later B W, Calls Tryd.prog 10 #[.int .i64 s, .string ⟨#[32]⟩] v.val (Ret B W (.string T))) ∨ (o8 = false ∧ e8 = 1 ∧ T = ⟨#[]⟩)) :
    Calls Tryd.prog 3 #[.int .i64 n, .int .i64 s, .slice a l.length cap, .string t] u.val (Ret B W (.bool true)) := by
  have K1 : Hid (∀ v : Later B W, Calls Tryd.prog 5 #[.int .i64 n, .int .i64 s] v.val (Ret B W (.bool (decide (isSet n s))))) := Lib.hid (fun v => c_isSet v n s)
  have K2 : Hid (∀ v : Later B W, Calls Tryd.prog 4 #[.bool (decide (isSet n s)), .int .i64 1] v.val (Ret B W (.int .i64 (errno (decide (isSet n s)) 1)))) := Lib.hid (fun v => c_bad v _ 1)
  have K3 : Hid (∀ v : Later B W, Calls Tryd.prog 6 #[.int .i64 n, .int .i64 s] v.val (Ret B W (.int .i64 (errno (decide (isSet n s)) 1)))) := Lib.hid (fun v => c_setsCheck v n s)
  have K4 : Hid (∀ v : Later B W, Calls Tryd.prog 7 #[.int .i64 n, .slice a l.length cap] v.val (Ret B W (.int .i64 (errno (decide (isFam n l)) 1)))) := Lib.hid (fun v => c_family v n l a cap h (by omega))
  have K5 : Hid (∀ v : Later B W, Calls Tryd.prog 8 #[.int .i64 n, .slice a l.length cap] v.val (Ret B W (.bool (decide (isFam n l))))) := Lib.hid (fun v => c_isFamily v n l a cap h (by omega))
  have K6 : Hid (∀ v : Later B W, Calls Tryd.prog 4 #[.bool (decide (isFam n l)), .int .i64 1] v.val (Ret B W (.int .i64 (errno (decide (isFam n l)) 1)))) := Lib.hid (fun v => c_bad v _ 1)
  have KR : Hid (∀ v : Later B W, Calls Tryd.prog 11 #[.string t] v.val (Ret B W (.tuple #[.int .i64 ((rdT (byL t) 0 (-1) 0).1 : Nat), .agg #[.int .i64 (rdT (byL t) 0 (-1) 0).2.1, .int .i64 ((rdT (byL t) 0 (-1) 0).2.2 : Nat)]]))) := Lib.hid (fun v => c_read v t ht)
  have KO : Hid (∀ w : World, Calls Tryd.prog 12 #[.string t] w (Ret w.heap.size w (.tuple #[.int .i64 ((rdT (byL t) 0 (-1) 0).1 : Nat), .agg #[.int .i64 (rdT (byL t) 0 (-1) 0).2.1, .int .i64 ((rdT (byL t) 0 (-1) 0).2.2 : Nat)]]))) := Lib.hid (fun w => c_ofText (Later.self w) t ht)
  have KW := Lib.hid hW
  have KI := Lib.hid hI
  clear h hlen ht hW hI
  generalize (((rdT (byL t) 0 (-1) 0).1 : Nat) : Int) = r1 at *
  generalize (rdT (byL t) 0 (-1) 0).2.1 = r2 at *
  generalize (((rdT (byL t) 0 (-1) 0).2.2 : Nat) : Int) = r3 at *
  generalize errno (decide (isSet n s)) 1 = E at *
  generalize errno (decide (isFam n l)) 1 = F at *
  generalize decide (isSet n s) = o1 at *
  generalize decide (isFam n l) = o2 at *
  rcases hc with ⟨rfl, rfl, hT⟩ | ⟨rfl, rfl, rfl⟩
  · have KT := Lib.hid hT
    clear hT
    go_enter Tryd.func3, Tryd.ntmps3
    go_upto_region 8 with (first | (go_at_call 5; first | ((with_reducible refine (K1.out _).mono ?_); rintro e _ ⟨rfl, v1, rfl⟩) | ((with_reducible refine (KI.out _).mono ?_); rintro e _ ⟨rfl, v1, rfl⟩)) | (go_at_call 4; first | ((with_reducible refine (K2.out _).mono ?_); rintro e _ ⟨rfl, v1, rfl⟩) | ((with_reducible refine (K6.out _).mono ?_); rintro e _ ⟨rfl, v1, rfl⟩)) | (go_at_call 6; (with_reducible refine (K3.out _).mono ?_); rintro e _ ⟨rfl, v1, rfl⟩) | (go_at_call 7; (with_reducible refine (K4.out _).mono ?_); rintro e _ ⟨rfl, v1, rfl⟩) | (go_at_call 8; (with_reducible refine (K5.out _).mono ?_); rintro e _ ⟨rfl, v1, rfl⟩) | (go_at_call 9; (with_reducible refine (KW.out _).mono ?_); rintro e _ ⟨rfl, v1, rfl⟩) | (go_at_call 10; (with_reducible refine (KT.out _).mono ?_); rintro e _ ⟨rfl, v1, rfl⟩) | fail)
    go_upto_region 9 with (first | (go_at_call 11; (with_reducible refine (KR.out _).mono ?_); rintro e _ ⟨rfl, y, rfl⟩) | fail)
    have TX : RowL (y.val.alloc (.cells #[.int .i64 r2, .int .i64 r3] 33)) y.val.heap.size 33 [.int .i64 r2, .int .i64 r3] := RowL.new _ _ _
    obtain ⟨x, hx⟩ : ∃ x : Later B W, x.val = y.val.alloc (.cells #[.int .i64 r2, .int .i64 r3] 33) := ⟨y.alloc _, rfl⟩
    rw [← hx] at TX ⊢
    have TX' := Lib.hid TX
    clear hx TX
    generalize y.val.heap.size = g1 at *
    clear y
    go_upto_region 10 with (first | (go_at_call 12; (with_reducible refine (KO.out _).mono ?_); rintro e _ ⟨rfl, y, rfl⟩) | fail)
    have TY : RowL (y.val.alloc (.cells #[.int .i64 r2, .int .i64 r3] 33)) y.val.heap.size 33 [.int .i64 r2, .int .i64 r3] := RowL.new _ _ _
    have TX2 := TX'.out.keep (y.alloc (.cells #[.int .i64 r2, .int .i64 r3] 33)).below
    obtain ⟨z, hz⟩ : ∃ z : Later B W, z.val = y.val.alloc (.cells #[.int .i64 r2, .int .i64 r3] 33) := ⟨x.up (y.alloc _), rfl⟩
    rw [show (y.alloc (.cells #[.int .i64 r2, .int .i64 r3] 33)).val = y.val.alloc (.cells #[.int .i64 r2, .int .i64 r3] 33) from rfl, ← hz] at TX2
    rw [← hz] at TY ⊢
    generalize y.val.heap.size = g2 at *
    have a0 : z.val.cell? ⟨g1, 0, none⟩ = some (.int .i64 r2) := TX2.cell rfl
    have a1 : z.val.cell? ⟨g1, 1, none⟩ = some (.int .i64 r3) := TX2.cell rfl
    have b0 : z.val.cell? ⟨g2, 0, none⟩ = some (.int .i64 r2) := TY.cell rfl
    have b1 : z.val.cell? ⟨g2, 1, none⟩ = some (.int .i64 r3) := TY.cell rfl
    clear hz TX2 TY TX' y x
    go_wp2
    go_ret
    exact Ret.mk z rfl
  · go_enter Tryd.func3, Tryd.ntmps3
    go_upto_region 8 with (first | (go_at_call 5; first | ((with_reducible refine (K1.out _).mono ?_); rintro e _ ⟨rfl, v1, rfl⟩) | ((with_reducible refine (KI.out _).mono ?_); rintro e _ ⟨rfl, v1, rfl⟩)) | (go_at_call 4; first | ((with_reducible refine (K2.out _).mono ?_); rintro e _ ⟨rfl, v1, rfl⟩) | ((with_reducible refine (K6.out _).mono ?_); rintro e _ ⟨rfl, v1, rfl⟩)) | (go_at_call 6; (with_reducible refine (K3.out _).mono ?_); rintro e _ ⟨rfl, v1, rfl⟩) | (go_at_call 7; (with_reducible refine (K4.out _).mono ?_); rintro e _ ⟨rfl, v1, rfl⟩) | (go_at_call 8; (with_reducible refine (K5.out _).mono ?_); rintro e _ ⟨rfl, v1, rfl⟩) | (go_at_call 9; (with_reducible refine (KW.out _).mono ?_); rintro e _ ⟨rfl, v1, rfl⟩) | fail)
    go_upto_region 9 with (first | (go_at_call 11; (with_reducible refine (KR.out _).mono ?_); rintro e _ ⟨rfl, y, rfl⟩) | fail)
    have TX : RowL (y.val.alloc (.cells #[.int .i64 r2, .int .i64 r3] 33)) y.val.heap.size 33 [.int .i64 r2, .int .i64 r3] := RowL.new _ _ _
    obtain ⟨x, hx⟩ : ∃ x : Later B W, x.val = y.val.alloc (.cells #[.int .i64 r2, .int .i64 r3] 33) := ⟨y.alloc _, rfl⟩
    rw [← hx] at TX ⊢
    have TX' := Lib.hid TX
    clear hx TX
    generalize y.val.heap.size = g1 at *
    clear y
    go_upto_region 10 with (first | (go_at_call 12; (with_reducible refine (KO.out _).mono ?_); rintro e _ ⟨rfl, y, rfl⟩) | fail)
    have TY : RowL (y.val.alloc (.cells #[.int .i64 r2, .int .i64 r3] 33)) y.val.heap.size 33 [.int .i64 r2, .int .i64 r3] := RowL.new _ _ _
    have TX2 := TX'.out.keep (y.alloc (.cells #[.int .i64 r2, .int .i64 r3] 33)).below
    obtain ⟨z, hz⟩ : ∃ z : Later B W, z.val = y.val.alloc (.cells #[.int .i64 r2, .int .i64 r3] 33) := ⟨x.up (y.alloc _), rfl⟩
    rw [show (y.alloc (.cells #[.int .i64 r2, .int .i64 r3] 33)).val = y.val.alloc (.cells #[.int .i64 r2, .int .i64 r3] 33) from rfl, ← hz] at TX2
    rw [← hz] at TY ⊢
    generalize y.val.heap.size = g2 at *
    have a0 : z.val.cell? ⟨g1, 0, none⟩ = some (.int .i64 r2) := TX2.cell rfl
    have a1 : z.val.cell? ⟨g1, 1, none⟩ = some (.int .i64 r3) := TX2.cell rfl
    have b0 : z.val.cell? ⟨g2, 0, none⟩ = some (.int .i64 r2) := TY.cell rfl
    have b1 : z.val.cell? ⟨g2, 1, none⟩ = some (.int .i64 r3) := TY.cell rfl
    clear hz TX2 TY TX' y x
    go_wp2
    go_ret
    exact Ret.mk z rfl

end Go.Proofs.YtpfhgklajaigfaaDoor
