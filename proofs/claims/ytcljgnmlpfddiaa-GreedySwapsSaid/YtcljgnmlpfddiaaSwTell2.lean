/-
  rotaref.Swapped: its function value, the walk (under way).
-/
import Derived.Test.YtcljgnmlpfddiaaSwTell
namespace Go.Proofs.Ytcljgnmlpfddiaa
open Go.RowKit
set_option linter.unusedVariables false

set_option maxRecDepth 100000 in
set_option maxHeartbeats 4000000 in
theorem c_swTell {B : Nat} {W : World} (u : Later B W) (A Bb x y : Nat) (r : Bool) (L : List Nat) (a : Option Addr) (cap ga gb gx gm : Nat) (h : IntsAt B W a (ints L)) (hlen : L.length ≤ 4611686018427387904) (hA8 : A < 256) (hB8 : Bb < 256) (hx8 : x < 256) (hy8 : y < 256) (hx : nand x (nand A Bb) = 0)
    (hlt : ga < B ∧ gb < B ∧ gx < B ∧ gm < B) (ca : W.cell? ⟨ga, 0, none⟩ = some (.int .i64 A)) (cb : W.cell? ⟨gb, 0, none⟩ = some (.int .i64 Bb)) (cx : W.cell? ⟨gx, 0, none⟩ = some (.int .i64 x)) (cm : W.cell? ⟨gm, 1, none⟩ = some (.slice a (ints L).length cap)) (hr : r = true ↔ SwOk L A Bb x y) :
    Calls Try.prog 131 #[.int .i64 y, .pointer (some ⟨gb, 0, none⟩), .pointer (some ⟨ga, 0, none⟩), .pointer (some ⟨gx, 0, none⟩), .pointer (some ⟨gm, 0, none⟩)] u.val (Ret B W (.bool r)) := by
  have da : ∀ v : Later B W, v.val.cell? ⟨ga, 0, none⟩ = some (.int .i64 A) := fun v => by rw [v.cell hlt.1]; exact ca
  have db : ∀ v : Later B W, v.val.cell? ⟨gb, 0, none⟩ = some (.int .i64 Bb) := fun v => by rw [v.cell hlt.2.1]; exact cb
  have dx : ∀ v : Later B W, v.val.cell? ⟨gx, 0, none⟩ = some (.int .i64 x) := fun v => by rw [v.cell hlt.2.2.1]; exact cx
  have dm : ∀ v : Later B W, v.val.cell? ⟨gm, 1, none⟩ = some (.slice a (ints L).length cap) := fun v => by rw [v.cell hlt.2.2.2]; exact cm
  have o1 := i64_andNot Bb A (by omega) (by omega)
  have hBA : nand Bb A < 256 := nand_lt _ _ 8 hB8
  have o2 := i64_andNot A x (by omega) (by omega)
  have hAx : nand A x < 256 := nand_lt _ _ 8 hA8
  have o3 := i64_andNot Bb y (by omega) (by omega)
  have hBy : nand Bb y < 256 := nand_lt _ _ 8 hB8
  have w1 := IntWalk.i64_in ((nand A x : Int) + (y : Int)) (by omega)
  have w2 := IntWalk.i64_in ((nand Bb y : Int) + (x : Int)) (by omega)
  have KW := Lib.hid (fun v : Later B W => c_within v y (nand Bb A) (by omega) (by omega))
  have HS1 := Lib.hid (fun v : Later B W => c_size v y hy8)
  have HS2 := Lib.hid (fun v : Later B W => c_size v x hx8)
  have KH : Hid (∀ (v : Later B W) (z : Nat) (d : Bool), decide (z ∈ L) = d → Calls Try.prog 75 #[.slice a (ints L).length cap, .int .i64 (z : Int)] v.val (Ret B W (.bool d))) := Lib.hid (fun v z d hd => by
    have := c_has v (ints L) (z : Int) a cap h (by rw [ints_len]; omega)
    rwa [show decide ((z : Int) ∈ ints L) = d by rw [← hd]; simp only [mem_ints]] at this)
  have HR := Lib.hid hr
  have HX := Lib.hid hx
  clear h ca cb cx cm hr hx
  by_cases h1 : y ||| nand Bb A = nand Bb A
  case neg =>
    have K1 := Lib.hid (fun v => dcall_f (KW.out v) h1)
    have hrf : r = false := by
      cases h : r with
      | false => rfl
      | true => exact absurd (or_eq_iff.2 (nand_zero_sub.1 (HR.out.1 h).1)) h1
    subst hrf
    clear h1 KW
    go_enter Try.func131, Try.ntmps131
    go_wp2
    refine wp_region_later u (by kernel_rfl) (by kernel_rfl) (fun _ => ?_)
    repeat (first | go_big_quiet_step (((go_at_call 60; exact K1.out _))) | (refine wpQuiet_step (fun K hK => ?_); go_simp; refine ⟨_, fun _ => rfl, ?_⟩; refine hK _ ?_; clear hK K))
    refine wpQuiet_nil ?_
    intro u
    go_wp2
    go_ret
    exact Ret.mk u rfl
  have K1 := Lib.hid (fun v => dcall_t (KW.out v) h1)
  have H1 : Hid (nand y (nand Bb A) = 0) := Lib.hid (nand_zero_sub.2 (or_eq_iff.1 h1))
  have HA : Hid ((nand A x : Int) + (y : Int) = ((nand A x ||| y : Nat) : Int)) := Lib.hid (by
    rw [← add_disjoint hAx hy8 (disj_left (nand_zero_sub.1 H1.out))]; omega)
  have HB : Hid ((nand Bb y : Int) + (x : Int) = ((nand Bb y ||| x : Nat) : Int)) := Lib.hid (by
    rw [← add_disjoint hBy hx8 (disj_left (nand_zero_sub.1 HX.out))]; omega)
  have KA := Lib.hid (fun v d hd => KH.out v (nand A x ||| y) d hd)
  have KB := Lib.hid (fun v d hd => KH.out v (nand Bb y ||| x) d hd)
  rw [← HA.out] at KA
  rw [← HB.out] at KB
  have HOk : Hid (SwOk L A Bb x y ↔ sz y = sz x ∧ (nand A x ||| y) ∈ L ∧ (nand Bb y ||| x) ∈ L) := Lib.hid ⟨fun h => h.2, fun h => ⟨H1.out, h⟩⟩
  clear h1 KW KH HX H1 HA HB
  by_cases h2 : sz y = sz x
  case neg =>
    have d2 : (((sz y : Nat) : Int) == ((sz x : Nat) : Int)) = false := by rw [beq_eq_false_iff_ne]; omega
    have hrf : r = false := by
      cases h : r with
      | false => rfl
      | true => exact absurd (HOk.out.1 (HR.out.1 h)).1 h2
    subst hrf
    clear h2
    go_enter Try.func131, Try.ntmps131
    go_wp2
    refine wp_region_later u (by kernel_rfl) (by kernel_rfl) (fun _ => ?_)
    repeat (first | go_big_quiet_step ((first | (go_at_call 60; exact K1.out _) | (go_at_call 66; exact HS1.out _) | (go_at_call 66; exact HS2.out _))) | (refine wpQuiet_step (fun K hK => ?_); go_simp; refine ⟨_, fun _ => rfl, ?_⟩; refine hK _ ?_; clear hK K))
    refine wpQuiet_nil ?_
    intro u
    go_wp2
    go_ret
    exact Ret.mk u rfl
  rw [h2] at HS1
  by_cases h3 : (nand A x ||| y) ∈ L
  case neg =>
    have K2 := Lib.hid (fun v => KA.out v false (by simp [h3]))
    have hrf : r = false := by
      cases h : r with
      | false => rfl
      | true => exact absurd (HOk.out.1 (HR.out.1 h)).2.1 h3
    subst hrf
    clear h2 h3
    go_enter Try.func131, Try.ntmps131
    go_wp2
    refine wp_region_later u (by kernel_rfl) (by kernel_rfl) (fun _ => ?_)
    repeat (first | go_big_quiet_step ((first | (go_at_call 60; exact K1.out _) | (go_at_call 66; exact HS1.out _) | (go_at_call 66; exact HS2.out _) | (go_at_call 75; exact K2.out _))) | (refine wpQuiet_step (fun K hK => ?_); go_simp; refine ⟨_, fun _ => rfl, ?_⟩; refine hK _ ?_; clear hK K))
    refine wpQuiet_nil ?_
    intro u
    go_wp2
    go_ret
    exact Ret.mk u rfl
  have K2 := Lib.hid (fun v => KA.out v true (by simp [h3]))
  by_cases h4 : (nand Bb y ||| x) ∈ L
  · have K3 := Lib.hid (fun v => KB.out v true (by simp [h4]))
    have hrf : r = true := HR.out.2 (HOk.out.2 ⟨h2, h3, h4⟩)
    subst hrf
    clear h2 h3 h4
    go_enter Try.func131, Try.ntmps131
    go_wp2
    refine wp_region_later u (by kernel_rfl) (by kernel_rfl) (fun _ => ?_)
    repeat (first | go_big_quiet_step ((first | (go_at_call 60; exact K1.out _) | (go_at_call 66; exact HS1.out _) | (go_at_call 66; exact HS2.out _) | (go_at_call 75; exact K2.out _) | (go_at_call 75; exact K3.out _))) | (refine wpQuiet_step (fun K hK => ?_); go_simp; refine ⟨_, fun _ => rfl, ?_⟩; refine hK _ ?_; clear hK K))
    refine wpQuiet_nil ?_
    intro u
    go_wp2
    go_ret
    exact Ret.mk u rfl
  · have K3 := Lib.hid (fun v => KB.out v false (by simp [h4]))
    have hrf : r = false := by
      cases h : r with
      | false => rfl
      | true => exact absurd (HOk.out.1 (HR.out.1 h)).2.2 h4
    subst hrf
    clear h2 h3 h4
    go_enter Try.func131, Try.ntmps131
    go_wp2
    refine wp_region_later u (by kernel_rfl) (by kernel_rfl) (fun _ => ?_)
    repeat (first | go_big_quiet_step ((first | (go_at_call 60; exact K1.out _) | (go_at_call 66; exact HS1.out _) | (go_at_call 66; exact HS2.out _) | (go_at_call 75; exact K2.out _) | (go_at_call 75; exact K3.out _))) | (refine wpQuiet_step (fun K hK => ?_); go_simp; refine ⟨_, fun _ => rfl, ?_⟩; refine hK _ ?_; clear hK K))
    refine wpQuiet_nil ?_
    intro u
    go_wp2
    go_ret
    exact Ret.mk u rfl

end Go.Proofs.Ytcljgnmlpfddiaa
