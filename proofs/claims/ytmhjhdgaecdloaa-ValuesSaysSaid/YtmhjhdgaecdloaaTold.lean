
/-
  The law's own helpers over matroids, where they answer true: SameMatroid, told.
-/
import Derived.Test.YtmhjhdgaecdloaaBase
import Derived.Test.YtmhjhdgaecdloaaFam2
namespace Go.Proofs.Ytmhjhdgaecdloaa
open Go.RowKit
set_option linter.unusedVariables false

set_option maxRecDepth 100000 in
set_option maxHeartbeats 1000000 in
theorem c_sameMatroid {B : Nat} {W : World} (u : Later B W) (n : Int) (l : List Int) (a b : Option Addr) (ca cb : Nat) (ha : IntsAt B W a l) (hb : IntsAt B W b l) (hlen : l.length ≤ 4611686018427387904) :
    Calls Try.prog 25 #[.agg #[.int .i64 n, .slice a l.length ca], .agg #[.int .i64 n, .slice b l.length cb]] u.val (Ret B W (.bool true)) := by
  have H := Lib.hid (fun o1 o2 => c_same ((u.alloc o1).alloc o2) l a b ca cb ha hb hlen)
  have H2 : Hid (∀ o1 o2, Calls Try.prog 35 #[.slice a l.length ca, .slice b l.length cb] ((u.val.alloc o1).alloc o2) (Ret B W (.bool true))) := H
  clear ha hb H
  go_enter Try.func25, Try.ntmps25
  go_wp2_with (first | (go_at_call 35; refine (H2.out _ _).mono ?_; rintro e _ ⟨rfl, v1, rfl⟩))
  go_ret
  exact Ret.mk _ rfl

set_option maxRecDepth 100000 in
set_option maxHeartbeats 1000000 in
theorem c_told {B : Nat} {W : World} (u : Later B W) (n n' : Int) (l l' : List Int) (a b : Option Addr) (ca cb : Nat) (e f : Int) (ha : IntsAt B W a l) (hb : IntsAt B W b l') (hlen : l.length ≤ 4611686018427387904) (he : e = f) (h : if f = 0 then n = n' ∧ l = l' else n = 0 ∧ l = []) :
    Calls Try.prog 13 #[.agg #[.int .i64 n, .slice a l.length ca], .int .i64 e, .agg #[.int .i64 n', .slice b l'.length cb], .int .i64 f] u.val (Ret B W (.bool true)) := by
  subst he
  rcases ieq e 0 with ⟨g1, d1, d2⟩ | ⟨g1, d1, d2⟩
  · rw [if_pos g1] at h
    obtain ⟨rfl, rfl⟩ := h
    subst g1
    have H := Lib.hid (fun o1 o2 => c_sameMatroid ((u.alloc o1).alloc o2) n l a b ca cb ha hb hlen)
    have H2 : Hid (∀ o1 o2, Calls Try.prog 25 #[.agg #[.int .i64 n, .slice a l.length ca], .agg #[.int .i64 n, .slice b l.length cb]] ((u.val.alloc o1).alloc o2) (Ret B W (.bool true))) := H
    clear ha hb H
    go_enter Try.func13, Try.ntmps13
    go_wp2_with (first | (go_at_call 25; refine (H2.out _ _).mono ?_; rintro e _ ⟨rfl, v1, rfl⟩))
    go_ret
    exact Ret.mk _ rfl
  · rw [if_neg g1] at h
    obtain ⟨rfl, rfl⟩ := h
    have HU : Hid (∀ o1 o2, ∃ w : Later B W, w.val = (u.val.alloc o1).alloc o2) := Lib.hid (fun o1 o2 => ⟨(u.alloc o1).alloc o2, rfl⟩)
    clear ha hb
    go_enter Try.func13, Try.ntmps13
    go_wp2
    go_ret
    exact Ret.of (HU.out _ _) (vbool (by simp))

end Go.Proofs.Ytmhjhdgaecdloaa
