/-
  game.Joins.
-/
import Derived.Test.YtcljgnmlpfddiaaGameWinsR
namespace Go.Proofs.Ytcljgnmlpfddiaa
open Go.RowKit Go.Maps
set_option linter.unusedVariables false

set_option maxRecDepth 100000 in
set_option maxHeartbeats 4000000 in
theorem c_joins_no {B : Nat} {W : World} (u : Later B W) (n s t j c : Int) (first : Bool) (es : List (Int × Int)) (a : Option Addr) (cap : Nat) (h : EdgesAt B W a es) (hlen : es.length ≤ 4611686018427387904) (hj : j < 9223372036854775808) (hc : c < 9223372036854775808) (hp : ¬ isPos n es s t j c) :
    Calls Try.prog 16 #[.agg #[.int .i64 n, .slice a es.length cap], .int .i64 s, .int .i64 t, .int .i64 j, .int .i64 c, .bool first] u.val (Ret B W (.tuple #[.bool false, .int .i64 1])) := by
  have T0 : Hid (Two (u.val.alloc (.cells #[.int .i64 n, .slice a es.length cap] 27)) u.val.heap.size 27 (.int .i64 n) (.slice a es.length cap)) := Lib.hid (Two.new _ _ _ _)
  have K0 : Hid (Calls Try.prog 18 #[.agg #[.int .i64 n, .slice a es.length cap], .int .i64 s, .int .i64 t, .int .i64 j, .int .i64 c] (u.val.alloc (.cells #[.int .i64 n, .slice a es.length cap] 27)) (Ret B W (.int .i64 1))) := Lib.hid (by
    have := c_gameCheck (u.alloc (.cells #[.int .i64 n, .slice a es.length cap] 27)) n s t j c es a cap h hlen hj hc
    rwa [← errno_bad hp] at this)
  clear h hp
  go_enter Try.func16, Try.ntmps16
  go_wp2_with (first | (go_at_call 18; refine (K0.out).mono ?_; rintro e _ ⟨rfl, v1, rfl⟩))
  go_ret2
  exact Ret.mk v1 rfl

set_option maxRecDepth 100000 in
set_option maxHeartbeats 4000000 in
theorem c_joins {B : Nat} {W : World} (u : Later B W) (n s t j c : Nat) (first : Bool) (es : List (Int × Int)) (a : Option Addr) (cap : Nat) (h : EdgesAt B W a es) (hp : isPos n es s t j c) :
    Calls Try.prog 16 #[.agg #[.int .i64 n, .slice a es.length cap], .int .i64 s, .int .i64 t, .int .i64 j, .int .i64 c, .bool first] u.val (Ret B W (.tuple #[.bool (win (led n es s t) es.length j c first), .int .i64 0])) := by
  have hG := hp.1
  have he8 : es.length ≤ 8 := hG.2.2.1
  have hbm := bit_le es.length he8
  have hs : s < 8 := by have := hp.2.1; have := hG.2.1; omega
  have ht : t < 8 := by have := hp.2.1; have := hG.2.1; omega
  have hj : j < bit es.length := by have := (isSet_iff he8 (j : Int)).1 hp.2.2.1; omega
  have hc : c < bit es.length := by have := (isSet_iff he8 (c : Int)).1 hp.2.2.2.1; omega
  have T0 : Hid (Two (u.val.alloc (.cells #[.int .i64 n, .slice a es.length cap] 27)) u.val.heap.size 27 (.int .i64 n) (.slice a es.length cap)) := Lib.hid (Two.new _ _ _ _)
  have hE := h.to (u.alloc (.cells #[.int .i64 n, .slice a es.length cap] 27))
  have hE' : EdgesAt (u.val.alloc (.cells #[.int .i64 n, .slice a es.length cap] 27)).heap.size (u.val.alloc (.cells #[.int .i64 n, .slice a es.length cap] 27)) a es := hE
  have HV : Hid (∀ v : Later (u.val.alloc (.cells #[.int .i64 n, .slice a es.length cap] 27)).heap.size (u.val.alloc (.cells #[.int .i64 n, .slice a es.length cap] 27)), ∃ w : Later B W, w.val = v.val) := Lib.hid (fun v => ⟨(u.alloc _).up v, rfl⟩)
  have K0 : Hid (Calls Try.prog 18 #[.agg #[.int .i64 n, .slice a es.length cap], .int .i64 s, .int .i64 t, .int .i64 j, .int .i64 c] (u.val.alloc (.cells #[.int .i64 n, .slice a es.length cap] 27)) (Ret (u.val.alloc (.cells #[.int .i64 n, .slice a es.length cap] 27)).heap.size (u.val.alloc (.cells #[.int .i64 n, .slice a es.length cap] 27)) (.int .i64 0))) := Lib.hid (by
    have := c_gameCheck (Later.self (u.val.alloc (.cells #[.int .i64 n, .slice a es.length cap] 27))) n s t j c es a cap hE' (by omega) (by omega) (by omega)
    rwa [← errno_ok hp] at this)
  have q0 : ∀ w : Later (u.val.alloc (.cells #[.int .i64 n, .slice a es.length cap] 27)).heap.size (u.val.alloc (.cells #[.int .i64 n, .slice a es.length cap] 27)), w.val.cell? ⟨u.val.heap.size, 0, none⟩ = some (.int .i64 n) := fun w => (T0.out.keep w.below).c0
  have q1 : ∀ w : Later (u.val.alloc (.cells #[.int .i64 n, .slice a es.length cap] 27)).heap.size (u.val.alloc (.cells #[.int .i64 n, .slice a es.length cap] 27)), w.val.cell? ⟨u.val.heap.size, 1, none⟩ = some (.slice a es.length cap) := fun w => (T0.out.keep w.below).c1
  have hmm := @run_makeMap Try.prog
  have hkc : cost (sz (left es.length j c)) ≤ 1000000 := Nat.le_trans (cost_le _ (sz_le _)) (by decide)
  have K : Hid (∀ v : Later (u.val.alloc (.cells #[.int .i64 n, .slice a es.length cap] 27)).heap.size (u.val.alloc (.cells #[.int .i64 n, .slice a es.length cap] 27)), ∀ q : Nat, (q = 0 ∨ q = 1) → Calls Try.prog 89 #[.agg #[.int .i64 n, .slice a es.length cap, .int .i64 s, .int .i64 t, .map (some v.val.heap.size)], .int .i64 j, .int .i64 c, .int .i64 q] (v.val.alloc (.map #[] 0)) (WinsPost (led n es s t) es.length (v.val.alloc (.map #[] 0)) v.val.heap.size (0 + cost (sz (left es.length j c))) (.bool (win (led n es s t) es.length j c (decide (q = 1)))))) := Lib.hid (fun v q hq =>
    c_wins n s t es a cap hG hs ht v.val.heap.size v.val.heap.size (Nat.le_refl _) _ _ 0 j c q (((hE'.to v)).later ((Below.refl _ _).alloc (Nat.le_refl _) _)) (Memo.new _ _ _) rfl (by rw [Nat.zero_add]; exact hkc) hj hc hq)
  have K1 : Hid (∀ v : Later (u.val.alloc (.cells #[.int .i64 n, .slice a es.length cap] 27)).heap.size (u.val.alloc (.cells #[.int .i64 n, .slice a es.length cap] 27)), Calls Try.prog 89 #[.agg #[.int .i64 n, .slice a es.length cap, .int .i64 s, .int .i64 t, .map (some v.val.heap.size)], .int .i64 j, .int .i64 c, .int .i64 1] (v.val.alloc (.map #[] 0)) (WinsPost (led n es s t) es.length (v.val.alloc (.map #[] 0)) v.val.heap.size (0 + cost (sz (left es.length j c))) (.bool (win (led n es s t) es.length j c true)))) := Lib.hid (fun v => K.out v 1 (.inr rfl))
  have K2 : Hid (∀ v : Later (u.val.alloc (.cells #[.int .i64 n, .slice a es.length cap] 27)).heap.size (u.val.alloc (.cells #[.int .i64 n, .slice a es.length cap] 27)), Calls Try.prog 89 #[.agg #[.int .i64 n, .slice a es.length cap, .int .i64 s, .int .i64 t, .map (some v.val.heap.size)], .int .i64 j, .int .i64 c, .int .i64 0] (v.val.alloc (.map #[] 0)) (WinsPost (led n es s t) es.length (v.val.alloc (.map #[] 0)) v.val.heap.size (0 + cost (sz (left es.length j c))) (.bool (win (led n es s t) es.length j c false)))) := Lib.hid (fun v => K.out v 0 (.inl rfl))
  have HB : Hid (∀ (v : Later (u.val.alloc (.cells #[.int .i64 n, .slice a es.length cap] 27)).heap.size (u.val.alloc (.cells #[.int .i64 n, .slice a es.length cap] 27))) (w' : World), (v.val.alloc (.map #[] 0)).grownBy w' (some v.val.heap.size) → ∃ u' : Later B W, u'.val = w') := Lib.hid (fun v w' h => by
    have h1 : Below v.val.heap.size v.val w' := ((Below.refl _ _).alloc (Nat.le_refl _) (.map #[] 0)).grown h (by simp) (fun k hk => by simp at hk; omega)
    exact HV.out (v.to w' (h1.mono v.size)))
  clear h hp hE hE' T0 K hkc hG
  cases first
  · go_enter Try.func16, Try.ntmps16
    go_wp2_with (first | (go_at_call 18; refine (K0.out).mono ?_; rintro e _ ⟨rfl, v1, rfl⟩) | (go_at_call 89; refine (K2.out v1).mono ?_; rintro e w2 ⟨rfl, hgr, hme⟩; have HGR := Lib.hid hgr; clear hgr hme))
    go_ret2
    exact Ret.of (HB.out v1 _ HGR.out) rfl
  · go_enter Try.func16, Try.ntmps16
    go_wp2_with (first | (go_at_call 18; refine (K0.out).mono ?_; rintro e _ ⟨rfl, v1, rfl⟩) | (go_at_call 89; refine (K1.out v1).mono ?_; rintro e w2 ⟨rfl, hgr, hme⟩; have HGR := Lib.hid hgr; clear hgr hme))
    go_ret2
    exact Ret.of (HB.out v1 _ HGR.out) rfl

end Go.Proofs.Ytcljgnmlpfddiaa
