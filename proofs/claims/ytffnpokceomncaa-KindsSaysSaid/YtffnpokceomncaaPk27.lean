
/-
  rotaref.OfRank: the bases of what a function value says the ranks are; rotaref.Spread.
  rotaref.Spread, minors.pressed.
  rotaref.Dual, Deleted, Contracted, Cut.
-/
import Derived.Test.YtffnpokceomncaaPk11
import Derived.Test.YtffnpokceomncaaPk02
import Derived.Test.YtffnpokceomncaaPk17
import Derived.Deep.RegionHeld3
import Derived.Test.YtffnpokceomncaaPk14
namespace Go.Proofs.Ytffnpokceomncaa
open Go.RowKit
set_option linter.unusedVariables false

/-- a function value that tells of each set below 2^m a number, in whatever later world -/
def TellsN (B : Nat) (W : World) (k : FuncId) (caps : Array Value) (m : Nat) (r : Nat → Int) : Prop :=
  ∀ (x : Later B W) (v : Later x.val.heap.size x.val) (s : Nat), s < bit m → Calls Try.prog k (#[.int .i64 (s : Int)] ++ caps) v.val (Ret x.val.heap.size x.val (.int .i64 (r s)))

set_option maxRecDepth 100000 in
set_option maxHeartbeats 4000000 in
theorem c_ofRankTell {B : Nat} {W : World} (u : Later B W) (m : Nat) (hm : m ≤ 8) (k : FuncId) (caps : Array Value) (r : Nat → Int) (hpl : Plain k) (hk : ∀ (v : Later B W) (s : Nat), s < bit m → Calls Try.prog k (#[.int .i64 (s : Int)] ++ caps) v.val (Ret B W (.int .i64 (r s)))) (s gn gf : Nat) (hs : s < bit m) (hgn : gn < B) (hgf : gf < B) (hn : W.cell? ⟨gn, 0, none⟩ = some (.int .i64 m)) (hf : W.cell? ⟨gf, 0, none⟩ = some (.func (.func k) #[] caps)) :
    Calls Try.prog 43 #[.int .i64 s, .pointer (some ⟨gf, 0, none⟩), .pointer (some ⟨gn, 0, none⟩)] u.val (Ret B W (.bool (ofRank m r s))) := by
  have hb := bit_le m hm
  have q0 : ∀ v : Later B W, v.val.cell? ⟨gn, 0, none⟩ = some (.int .i64 m) := fun v => by rw [v.cell hgn, hn]
  have q1 : ∀ v : Later B W, v.val.cell? ⟨gf, 0, none⟩ = some (.func (.func k) #[] caps) := fun v => by rw [v.cell hgf, hf]
  have hp1 : ∀ (args : Array Value) (w : World), (callFunc k args).run Try.prog w = .ok (.enter k args) w := hpl
  have KA : Hid (∀ v : Later B W, Calls Try.prog 44 #[.int .i64 m] v.val (Ret B W (.int .i64 ((bit m - 1 : Nat) : Int)))) := Lib.hid (fun v => by
    have := c_all v (m : Int) (by omega) (by omega)
    rwa [all_nat] at this)
  have KS := Lib.hid (fun v : Later B W => c_size v s (by omega))
  have K1 := Lib.hid (fun v : Later B W => hk v s hs)
  have K2 := Lib.hid (fun v : Later B W => hk v (bit m - 1) (by omega))
  have HR : Hid (ofRank m r s = decide (r s = sz s ∧ r s = r (bit m - 1))) := Lib.hid rfl
  clear hk hn hf
  generalize ofRank m r s = res at *
  generalize r (bit m - 1) = rt at *
  generalize bit m - 1 = top at *
  generalize r s = rs at *
  generalize sz s = z at *
  by_cases h1 : rs = (z : Int)
  · have d1 : (rs == (z : Int)) = true := by rw [beq_iff_eq]; exact h1
    have HR2 : Hid (res = (rs == rt)) := Lib.hid (by rw [HR.out, Bool.eq_iff_iff]; simp [h1])
    clear HR h1
    go_enter Try.func43, Try.ntmps43
    go_wp2
    refine wp_region_later u (by kernel_rfl) (by kernel_rfl) (fun _ => ?_)
    repeat (first | go_big_quiet_step ((first | (go_at_call 44; exact KA.out _) | (go_at_call 25; exact KS.out _) | (exact K1.out _) | (exact K2.out _))) | (refine wpQuiet_step (fun K hK => ?_); go_simp; refine ⟨_, fun _ => rfl, ?_⟩; refine hK _ ?_; clear hK K))
    refine wpQuiet_nil ?_
    intro u
    go_wp2
    go_ret
    exact Ret.mk u (by rw [HR2.out]; rfl)
  · have d1 : (rs == (z : Int)) = false := by rw [beq_eq_false_iff_ne]; exact h1
    have HR2 : Hid (res = false) := Lib.hid (by rw [HR.out]; simp [h1])
    clear HR h1
    go_enter Try.func43, Try.ntmps43
    go_wp2
    refine wp_region_later u (by kernel_rfl) (by kernel_rfl) (fun _ => ?_)
    repeat (first | go_big_quiet_step ((first | (go_at_call 44; exact KA.out _) | (go_at_call 25; exact KS.out _) | (exact K1.out _) | (exact K2.out _))) | (refine wpQuiet_step (fun K hK => ?_); go_simp; refine ⟨_, fun _ => rfl, ?_⟩; refine hK _ ?_; clear hK K))
    refine wpQuiet_nil ?_
    intro u
    go_wp2
    go_ret
    exact Ret.mk u (by rw [HR2.out]; rfl)


set_option maxRecDepth 100000 in
set_option maxHeartbeats 8000000 in
theorem c_ofRank {B : Nat} {W : World} (u : Later B W) (m : Nat) (hm : m ≤ 8) (k : FuncId) (caps : Array Value) (r : Nat → Int) (hpl : Plain k) (hk : TellsN B W k caps m r) :
    Calls Try.prog 23 #[.int .i64 m, .func (.func k) #[] caps] u.val (RetP B W (MatO B m (ints (those m (ofRank m r))))) := by
  have hb := bit_le m hm
  have hB := u.size
  have X0 : Hid (RowAt1 (((u.val.alloc (.cells #[.int .i64 m] 3)).alloc (.cells #[.func (.func k) #[] caps] 47)).alloc (.cells #[.int .i64 0, .slice none 0 0] 45)) u.val.heap.size 3 (.int .i64 m)) := Lib.hid (by
    have h1 : RowAt1 (u.val.alloc (.cells #[.int .i64 m] 3)) u.val.heap.size 3 (.int .i64 m) := heap_alloc_new _ _
    exact (h1.keep (((Below.refl _ _).alloc (Nat.le_refl _) _))).keep ((Below.refl _ _).alloc (Nat.le_refl _) _))
  have X1 : Hid (RowAt1 (((u.val.alloc (.cells #[.int .i64 m] 3)).alloc (.cells #[.func (.func k) #[] caps] 47)).alloc (.cells #[.int .i64 0, .slice none 0 0] 45)) (u.val.heap.size + 1) 47 (.func (.func k) #[] caps)) := Lib.hid (by
    have h1 : RowAt1 ((u.val.alloc (.cells #[.int .i64 m] 3)).alloc (.cells #[.func (.func k) #[] caps] 47)) (u.val.heap.size + 1) 47 (.func (.func k) #[] caps) := by
      have h2 : (u.val.alloc (.cells #[.int .i64 m] 3)).heap.size = u.val.heap.size + 1 := by simp
      have h3 : RowAt1 ((u.val.alloc (.cells #[.int .i64 m] 3)).alloc (.cells #[.func (.func k) #[] caps] 47)) (u.val.alloc (.cells #[.int .i64 m] 3)).heap.size 47 (.func (.func k) #[] caps) := heap_alloc_new _ _
      rwa [h2] at h3
    exact h1.keep ((Below.refl _ _).alloc (Nat.le_refl _) _))
  have X2 : Hid (RowL (((u.val.alloc (.cells #[.int .i64 m] 3)).alloc (.cells #[.func (.func k) #[] caps] 47)).alloc (.cells #[.int .i64 0, .slice none 0 0] 45)) (u.val.heap.size + 2) 45 [.int .i64 0, .slice none 0 0]) := Lib.hid (by
    have h2 : ((u.val.alloc (.cells #[.int .i64 m] 3)).alloc (.cells #[.func (.func k) #[] caps] 47)).heap.size = u.val.heap.size + 2 := by simp
    have h3 := RowL.new ((u.val.alloc (.cells #[.int .i64 m] 3)).alloc (.cells #[.func (.func k) #[] caps] 47)) 45 [.int .i64 0, .slice none 0 0]
    rwa [h2] at h3)
  have hY : (((u.val.alloc (.cells #[.int .i64 m] 3)).alloc (.cells #[.func (.func k) #[] caps] 47)).alloc (.cells #[.int .i64 0, .slice none 0 0] 45)).heap.size = u.val.heap.size + 3 := by simp
  have HZ : Hid (∃ w : Later B W, w.val = (((u.val.alloc (.cells #[.int .i64 m] 3)).alloc (.cells #[.func (.func k) #[] caps] 47)).alloc (.cells #[.int .i64 0, .slice none 0 0] 45))) := Lib.hid ⟨((u.alloc _).alloc _).alloc _, rfl⟩
  have HY := Lib.hid hY
  clear hY
  go_enter Try.func23, Try.ntmps23
  go_upto_region 1 with fail
  generalize (((u.val.alloc (.cells #[.int .i64 m] 3)).alloc (.cells #[.func (.func k) #[] caps] 47)).alloc (.cells #[.int .i64 0, .slice none 0 0] 45)) = Y at *
  generalize u.val.heap.size = g at *
  obtain ⟨y, rfl⟩ := HZ.out
  have HV : Hid (∀ v : Later y.val.heap.size y.val, ∃ w : Later B W, w.val = v.val) := Lib.hid (fun v => ⟨y.up v, rfl⟩)
  have hg2 : g + 2 < y.val.heap.size := by have := HY.out; omega
  have f0 : ∀ (w : Later y.val.heap.size y.val), w.val.cell? ⟨g + 2, 0, none⟩ = some (.int .i64 0) := fun w => (X2.out.keep_at w.below hg2).cell rfl
  have z0 : ∀ (w : Later y.val.heap.size y.val), w.val.frozen? ⟨g + 2, 0, none⟩ = false := fun w => (X2.out.keep_at w.below hg2).fz 0
  have f1 : ∀ (w : Later y.val.heap.size y.val) (x0 : Value), (w.val.setCell ⟨g + 2, 0, none⟩ x0).cell? ⟨g + 2, 1, none⟩ = some (.slice none 0 0) := fun w x0 => ((X2.out.keep_at w.below hg2).set 0 x0).cell rfl
  have z1 : ∀ (w : Later y.val.heap.size y.val) (x0 : Value), (w.val.setCell ⟨g + 2, 0, none⟩ x0).frozen? ⟨g + 2, 1, none⟩ = false := fun w x0 => ((X2.out.keep_at w.below hg2).set 0 x0).fz 1
  have s0 : y.val.drew.cell? ⟨g, 0, none⟩ = some (.int .i64 m) := (X0.out.keep (Later.self y.val).drew.below).c0
  have sa : ∀ w : Later y.val.heap.size y.val, w.val.cell? ⟨g, 0, none⟩ = some (.int .i64 m) := fun w => (X0.out.keep w.below).c0
  have KT : Hid (Calls Try.prog 42 #[.int .i64 m, .func (.func 43) #[] #[.pointer (some ⟨g + 1, 0, none⟩), .pointer (some ⟨g, 0, none⟩)]] y.val.drew (RetOwn y.val.heap.size y.val (ints (those m (ofRank m r))))) := Lib.hid (by
    refine c_those_own (Later.self y.val).drew m hm 43 _ (ofRank m r) (fun args w => by kernel_rfl) (fun x v s hs => ?_)
    have hx := x.size
    exact c_ofRankTell v m hm k caps r hpl (fun v s hs => hk (y.up x) v s hs) s g (g + 1) hs (by omega) (by omega) ((X0.out.keep x.below).c0) ((X1.out.keep x.below).c0))
  clear X0 hk
  generalize those m (ofRank m r) = A at *
  have se : ∀ (w : Later y.val.heap.size y.val) (x z : Value), ((w.val.setCell ⟨g + 2, 0, none⟩ x).setCell ⟨g + 2, 1, none⟩ z).cell? ⟨g, 0, none⟩ = some (.int .i64 m) := fun w x z => by
    rw [World.cell?_setCell_far _ _ _ _ (show g + 2 ≠ g by omega), World.cell?_setCell_far _ _ _ _ (show g + 2 ≠ g by omega)]
    exact sa w
  go_region_held3 (fun w' => w'.cell? ⟨g, 0, none⟩ = some (.int .i64 m)) (first | exact s0 | exact sa y1 | exact se y1 _ _) (first | (go_at_call 42; (with_reducible refine (KT.out).mono ?_); rintro e _ ⟨_, rfl, ⟨ad, cp, rfl, hO⟩, y1, rfl⟩))
  go_wp2
  refine bodyPost_ret (results_cell_row rfl _ _ (g + 2) 45 #[.int .i64 m, .slice ad (ints A).length cp] (0, 0) _ rfl (((X2.out.keep y1.below).set 0 _).set 1 _) Try.underlying45 rfl (by kernel_rfl)) rfl ?_
  have hBg : B ≤ g + 2 := by omega
  obtain ⟨z1, hz1⟩ := later_set (HV.out y1) (g := g + 2) (i := 0) hBg (.int .i64 m)
  obtain ⟨z2, hz2⟩ := later_set ⟨z1, hz1⟩ (g := g + 2) (i := 1) hBg (.slice ad (ints A).length cp)
  refine RetP.of ⟨z2, hz2⟩ ?_
  exact ⟨_, _, rfl, ((hO.set hg2 _).set hg2 _).mono (by omega)⟩

end Go.Proofs.Ytffnpokceomncaa

namespace Go.Proofs.Ytffnpokceomncaa
open Go.RowKit
set_option linter.unusedVariables false

theorem shr_and (x k : Nat) (hx : x < 256) : bits .and .i64 ((x : Int) / 2 ^ k) 1 = (((x.testBit k).toNat : Nat) : Int) := by
  have e1 : ((x : Int) / 2 ^ k) = ((x / 2 ^ k : Nat) : Int) := by simp
  have h1 : x / 2 ^ k ≤ x := Nat.div_le_self _ _
  rw [e1]
  have := i64_and (x / 2 ^ k) 1 (by omega) (by omega)
  rw [show ((1 : Nat) : Int) = 1 from rfl] at this
  rw [this, Nat.and_one_is_mod, Nat.toNat_testBit]

end Go.Proofs.Ytffnpokceomncaa

namespace Go.Proofs.Ytffnpokceomncaa
open Go.RowKit
set_option linter.unusedVariables false

end Go.Proofs.Ytffnpokceomncaa
