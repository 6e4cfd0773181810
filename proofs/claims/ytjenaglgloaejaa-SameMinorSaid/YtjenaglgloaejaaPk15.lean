
/-
  rotaref.OfRank: the bases of what a function value says the ranks are; rotaref.Spread.
  rotaref.Dual, Deleted, Contracted, Cut.
  rotaref.Dual, Deleted, Contracted, Cut.
-/
import Derived.Test.YtjenaglgloaejaaPk14
import Derived.Test.YtjenaglgloaejaaPk02
import Derived.Test.YtjenaglgloaejaaPk12
import Derived.Deep.RegionHeld3
import Derived.Test.YtjenaglgloaejaaPk13
import Derived.Test.YtjenaglgloaejaaPk09
namespace Go.Proofs.Ytjenaglgloaejaa
open Go.RowKit
set_option linter.unusedVariables false

/-- a function value that tells of each set below 2^m a number, in whatever later world -/
def TellsN (B : Nat) (W : World) (k : FuncId) (caps : Array Value) (m : Nat) (r : Nat → Int) : Prop :=
  ∀ (x : Later B W) (v : Later x.val.heap.size x.val) (s : Nat), s < bit m → Calls Try.prog k (#[.int .i64 (s : Int)] ++ caps) v.val (Ret x.val.heap.size x.val (.int .i64 (r s)))

set_option maxRecDepth 100000 in
set_option maxHeartbeats 4000000 in
theorem c_ofRankTell {B : Nat} {W : World} (u : Later B W) (m : Nat) (hm : m ≤ 8) (k : FuncId) (caps : Array Value) (r : Nat → Int) (hpl : Plain k) (hk : ∀ (v : Later B W) (s : Nat), s < bit m → Calls Try.prog k (#[.int .i64 (s : Int)] ++ caps) v.val (Ret B W (.int .i64 (r s)))) (s gn gf : Nat) (hs : s < bit m) (hgn : gn < B) (hgf : gf < B) (hn : W.cell? ⟨gn, 0, none⟩ = some (.int .i64 m)) (hf : W.cell? ⟨gf, 0, none⟩ = some (.func (.func k) #[] caps)) :
    Calls Try.prog 76 #[.int .i64 s, .pointer (some ⟨gf, 0, none⟩), .pointer (some ⟨gn, 0, none⟩)] u.val (Ret B W (.bool (ofRank m r s))) := by
  have hb := bit_le m hm
  have q0 : ∀ v : Later B W, v.val.cell? ⟨gn, 0, none⟩ = some (.int .i64 m) := fun v => by rw [v.cell hgn, hn]
  have q1 : ∀ v : Later B W, v.val.cell? ⟨gf, 0, none⟩ = some (.func (.func k) #[] caps) := fun v => by rw [v.cell hgf, hf]
  have hp1 : ∀ (args : Array Value) (w : World), (callFunc k args).run Try.prog w = .ok (.enter k args) w := hpl
  have KA : Hid (∀ v : Later B W, Calls Try.prog 29 #[.int .i64 m] v.val (Ret B W (.int .i64 ((bit m - 1 : Nat) : Int)))) := Lib.hid (fun v => by
    have := c_all v (m : Int) (by omega) (by omega)
    rwa [all_nat] at this)
  have KS := Lib.hid (fun v : Later B W => c_size v s (by omega))
  have K1 := Lib.hid (fun v : Later B W => hk v s hs)
  have K2 := Lib.hid (fun v : Later B W => hk v (bit m - 1) (by omega))
  have HR : Hid (ofRank m r s = decide (r s = sz s ∧ r s = r (bit m - 1))) := Lib.hid rfl
  clear hk hn hf
  generalize ofRank m r s = res at *
  generalize r (bit m - 1) = rt at *
  generalize bit m - 1 = top at *
  generalize r s = rs at *
  generalize sz s = z at *
  by_cases h1 : rs = (z : Int)
  · have d1 : (rs == (z : Int)) = true := by rw [beq_iff_eq]; exact h1
    have HR2 : Hid (res = (rs == rt)) := Lib.hid (by rw [HR.out, Bool.eq_iff_iff]; simp [h1])
    clear HR h1
    go_enter Try.func76, Try.ntmps76
    go_wp2
    refine wp_region_later u (by kernel_rfl) (by kernel_rfl) (fun _ => ?_)
    repeat (first | go_big_quiet_step ((first | (go_at_call 29; exact KA.out _) | (go_at_call 27; exact KS.out _) | (exact K1.out _) | (exact K2.out _))) | (refine wpQuiet_step (fun K hK => ?_); go_simp; refine ⟨_, fun _ => rfl, ?_⟩; refine hK _ ?_; clear hK K))
    refine wpQuiet_nil ?_
    intro u
    go_wp2
    go_ret
    exact Ret.mk u (by rw [HR2.out]; rfl)
  · have d1 : (rs == (z : Int)) = false := by rw [beq_eq_false_iff_ne]; exact h1
    have HR2 : Hid (res = false) := Lib.hid (by rw [HR.out]; simp [h1])
    clear HR h1
    go_enter Try.func76, Try.ntmps76
    go_wp2
    refine wp_region_later u (by kernel_rfl) (by kernel_rfl) (fun _ => ?_)
    repeat (first | go_big_quiet_step ((first | (go_at_call 29; exact KA.out _) | (go_at_call 27; exact KS.out _) | (exact K1.out _) | (exact K2.out _))) | (refine wpQuiet_step (fun K hK => ?_); go_simp; refine ⟨_, fun _ => rfl, ?_⟩; refine hK _ ?_; clear hK K))
    refine wpQuiet_nil ?_
    intro u
    go_wp2
    go_ret
    exact Ret.mk u (by rw [HR2.out]; rfl)


set_option maxRecDepth 100000 in
set_option maxHeartbeats 8000000 in
theorem c_ofRank {B : Nat} {W : World} (u : Later B W) (m : Nat) (hm : m ≤ 8) (k : FuncId) (caps : Array Value) (r : Nat → Int) (hpl : Plain k) (hk : TellsN B W k caps m r) :
    Calls Try.prog 59 #[.int .i64 m, .func (.func k) #[] caps] u.val (RetP B W (MatO B m (ints (those m (ofRank m r))))) := by
  have hb := bit_le m hm
  have hB := u.size
  have X0 : Hid (RowAt1 (((u.val.alloc (.cells #[.int .i64 m] 3)).alloc (.cells #[.func (.func k) #[] caps] 53)).alloc (.cells #[.int .i64 0, .slice none 0 0] 24)) u.val.heap.size 3 (.int .i64 m)) := Lib.hid (by
    have h1 : RowAt1 (u.val.alloc (.cells #[.int .i64 m] 3)) u.val.heap.size 3 (.int .i64 m) := heap_alloc_new _ _
    exact (h1.keep (((Below.refl _ _).alloc (Nat.le_refl _) _))).keep ((Below.refl _ _).alloc (Nat.le_refl _) _))
  have X1 : Hid (RowAt1 (((u.val.alloc (.cells #[.int .i64 m] 3)).alloc (.cells #[.func (.func k) #[] caps] 53)).alloc (.cells #[.int .i64 0, .slice none 0 0] 24)) (u.val.heap.size + 1) 53 (.func (.func k) #[] caps)) := Lib.hid (by
    have h1 : RowAt1 ((u.val.alloc (.cells #[.int .i64 m] 3)).alloc (.cells #[.func (.func k) #[] caps] 53)) (u.val.heap.size + 1) 53 (.func (.func k) #[] caps) := by
      have h2 : (u.val.alloc (.cells #[.int .i64 m] 3)).heap.size = u.val.heap.size + 1 := by simp
      have h3 : RowAt1 ((u.val.alloc (.cells #[.int .i64 m] 3)).alloc (.cells #[.func (.func k) #[] caps] 53)) (u.val.alloc (.cells #[.int .i64 m] 3)).heap.size 53 (.func (.func k) #[] caps) := heap_alloc_new _ _
      rwa [h2] at h3
    exact h1.keep ((Below.refl _ _).alloc (Nat.le_refl _) _))
  have X2 : Hid (RowL (((u.val.alloc (.cells #[.int .i64 m] 3)).alloc (.cells #[.func (.func k) #[] caps] 53)).alloc (.cells #[.int .i64 0, .slice none 0 0] 24)) (u.val.heap.size + 2) 24 [.int .i64 0, .slice none 0 0]) := Lib.hid (by
    have h2 : ((u.val.alloc (.cells #[.int .i64 m] 3)).alloc (.cells #[.func (.func k) #[] caps] 53)).heap.size = u.val.heap.size + 2 := by simp
    have h3 := RowL.new ((u.val.alloc (.cells #[.int .i64 m] 3)).alloc (.cells #[.func (.func k) #[] caps] 53)) 24 [.int .i64 0, .slice none 0 0]
    rwa [h2] at h3)
  have hY : (((u.val.alloc (.cells #[.int .i64 m] 3)).alloc (.cells #[.func (.func k) #[] caps] 53)).alloc (.cells #[.int .i64 0, .slice none 0 0] 24)).heap.size = u.val.heap.size + 3 := by simp
  have HZ : Hid (∃ w : Later B W, w.val = (((u.val.alloc (.cells #[.int .i64 m] 3)).alloc (.cells #[.func (.func k) #[] caps] 53)).alloc (.cells #[.int .i64 0, .slice none 0 0] 24))) := Lib.hid ⟨((u.alloc _).alloc _).alloc _, rfl⟩
  have HY := Lib.hid hY
  clear hY
  go_enter Try.func59, Try.ntmps59
  go_upto_region 1 with fail
  generalize (((u.val.alloc (.cells #[.int .i64 m] 3)).alloc (.cells #[.func (.func k) #[] caps] 53)).alloc (.cells #[.int .i64 0, .slice none 0 0] 24)) = Y at *
  generalize u.val.heap.size = g at *
  obtain ⟨y, rfl⟩ := HZ.out
  have HV : Hid (∀ v : Later y.val.heap.size y.val, ∃ w : Later B W, w.val = v.val) := Lib.hid (fun v => ⟨y.up v, rfl⟩)
  have hg2 : g + 2 < y.val.heap.size := by have := HY.out; omega
  have f0 : ∀ (w : Later y.val.heap.size y.val), w.val.cell? ⟨g + 2, 0, none⟩ = some (.int .i64 0) := fun w => (X2.out.keep_at w.below hg2).cell rfl
  have z0 : ∀ (w : Later y.val.heap.size y.val), w.val.frozen? ⟨g + 2, 0, none⟩ = false := fun w => (X2.out.keep_at w.below hg2).fz 0
  have f1 : ∀ (w : Later y.val.heap.size y.val) (x0 : Value), (w.val.setCell ⟨g + 2, 0, none⟩ x0).cell? ⟨g + 2, 1, none⟩ = some (.slice none 0 0) := fun w x0 => ((X2.out.keep_at w.below hg2).set 0 x0).cell rfl
  have z1 : ∀ (w : Later y.val.heap.size y.val) (x0 : Value), (w.val.setCell ⟨g + 2, 0, none⟩ x0).frozen? ⟨g + 2, 1, none⟩ = false := fun w x0 => ((X2.out.keep_at w.below hg2).set 0 x0).fz 1
  have s0 : y.val.drew.cell? ⟨g, 0, none⟩ = some (.int .i64 m) := (X0.out.keep (Later.self y.val).drew.below).c0
  have sa : ∀ w : Later y.val.heap.size y.val, w.val.cell? ⟨g, 0, none⟩ = some (.int .i64 m) := fun w => (X0.out.keep w.below).c0
  have KT : Hid (Calls Try.prog 36 #[.int .i64 m, .func (.func 76) #[] #[.pointer (some ⟨g + 1, 0, none⟩), .pointer (some ⟨g, 0, none⟩)]] y.val.drew (RetOwn y.val.heap.size y.val (ints (those m (ofRank m r))))) := Lib.hid (by
    refine c_those_own (Later.self y.val).drew m hm 76 _ (ofRank m r) (fun args w => by kernel_rfl) (fun x v s hs => ?_)
    have hx := x.size
    exact c_ofRankTell v m hm k caps r hpl (fun v s hs => hk (y.up x) v s hs) s g (g + 1) hs (by omega) (by omega) ((X0.out.keep x.below).c0) ((X1.out.keep x.below).c0))
  clear X0 hk
  generalize those m (ofRank m r) = A at *
  have se : ∀ (w : Later y.val.heap.size y.val) (x z : Value), ((w.val.setCell ⟨g + 2, 0, none⟩ x).setCell ⟨g + 2, 1, none⟩ z).cell? ⟨g, 0, none⟩ = some (.int .i64 m) := fun w x z => by
    rw [World.cell?_setCell_far _ _ _ _ (show g + 2 ≠ g by omega), World.cell?_setCell_far _ _ _ _ (show g + 2 ≠ g by omega)]
    exact sa w
  go_region_held3 (fun w' => w'.cell? ⟨g, 0, none⟩ = some (.int .i64 m)) (first | exact s0 | exact sa y1 | exact se y1 _ _) (first | (go_at_call 36; (with_reducible refine (KT.out).mono ?_); rintro e _ ⟨_, rfl, ⟨ad, cp, rfl, hO⟩, y1, rfl⟩))
  go_wp2
  refine bodyPost_ret (results_cell_row rfl _ _ (g + 2) 24 #[.int .i64 m, .slice ad (ints A).length cp] (0, 0) _ rfl (((X2.out.keep y1.below).set 0 _).set 1 _) Try.underlying24 rfl (by kernel_rfl)) rfl ?_
  have hBg : B ≤ g + 2 := by omega
  obtain ⟨z1, hz1⟩ := later_set (HV.out y1) (g := g + 2) (i := 0) hBg (.int .i64 m)
  obtain ⟨z2, hz2⟩ := later_set ⟨z1, hz1⟩ (g := g + 2) (i := 1) hBg (.slice ad (ints A).length cp)
  refine RetP.of ⟨z2, hz2⟩ ?_
  exact ⟨_, _, rfl, ((hO.set hg2 _).set hg2 _).mono (by omega)⟩

end Go.Proofs.Ytjenaglgloaejaa

namespace Go.Proofs.Ytjenaglgloaejaa
open Go.RowKit
set_option linter.unusedVariables false

set_option maxRecDepth 100000 in
set_option maxHeartbeats 4000000 in
theorem c_delTell {B : Nat} {W : World} (u : Later B W) (m : Nat) (hm : m ≤ 8) (L : List Nat) (s t gm gr gs gt c : Nat) (hs : s < bit m) (ht : t < 256) (hgm : gm < B) (hgr : gr < B) (hgs : gs < B) (hgt : gt < B) (hn : W.cell? ⟨gm, 0, none⟩ = some (.int .i64 m)) (hr : W.cell? ⟨gr, 0, none⟩ = some (.slice (some ⟨gt, 0, none⟩) (bit m) c)) (hss : W.cell? ⟨gs, 0, none⟩ = some (.int .i64 s)) (hT : ITab W gt (bit m) (fun j => (rk L j : Int))) :
    Calls Try.prog 60 #[.int .i64 t, .pointer (some ⟨gr, 0, none⟩), .pointer (some ⟨gm, 0, none⟩), .pointer (some ⟨gs, 0, none⟩)] u.val (Ret B W (.int .i64 (delR m L s t))) := by
  have hb := bit_le m hm
  have q0 : ∀ v : Later B W, v.val.cell? ⟨gm, 0, none⟩ = some (.int .i64 m) := fun v => by rw [v.cell hgm, hn]
  have q1 : ∀ v : Later B W, v.val.cell? ⟨gr, 0, none⟩ = some (.slice (some ⟨gt, 0, none⟩) (bit m) c) := fun v => by rw [v.cell hgr, hr]
  have q2 : ∀ v : Later B W, v.val.cell? ⟨gs, 0, none⟩ = some (.int .i64 s) := fun v => by rw [v.cell hgs, hss]
  have hsp := spTo_lt s t m
  have c1 : ∀ v : Later B W, v.val.cell? ⟨gt, spTo s t m, none⟩ = some (.int .i64 (rk L (spTo s t m) : Int)) := fun v => (hT.keep_at v.below hgt).cell hsp
  have KS := Lib.hid (fun v : Later B W => c_spread v m s t hm (by omega) ht)
  have HR : Hid (delR m L s t = (rk L (spTo s t m) : Int)) := Lib.hid rfl
  clear hn hr hT hss
  generalize delR m L s t = res at *
  generalize rk L (spTo s t m) = p1 at *
  generalize spTo s t m = z at *
  go_enter Try.func60, Try.ntmps60
  go_wp2
  refine wp_region_later u (by kernel_rfl) (by kernel_rfl) (fun _ => ?_)
  repeat (first | go_big_quiet_step (((go_at_call 61; exact KS.out _))) | (refine wpQuiet_step (fun K hK => ?_); go_simp; refine ⟨_, fun _ => rfl, ?_⟩; refine hK _ ?_; clear hK K))
  refine wpQuiet_nil ?_
  intro u
  go_wp2
  go_ret
  exact Ret.mk u (by rw [HR.out]; rfl)

set_option maxRecDepth 100000 in
set_option maxHeartbeats 4000000 in
theorem c_conTell {B : Nat} {W : World} (u : Later B W) (m : Nat) (hm : m ≤ 8) (L : List Nat) (s t gm gr gs gt c : Nat) (hs : s < bit m) (ht : t < 256) (hgm : gm < B) (hgr : gr < B) (hgs : gs < B) (hgt : gt < B) (hn : W.cell? ⟨gm, 0, none⟩ = some (.int .i64 m)) (hr : W.cell? ⟨gr, 0, none⟩ = some (.slice (some ⟨gt, 0, none⟩) (bit m) c)) (hss : W.cell? ⟨gs, 0, none⟩ = some (.int .i64 s)) (hT : ITab W gt (bit m) (fun j => (rk L j : Int))) :
    Calls Try.prog 62 #[.int .i64 t, .pointer (some ⟨gr, 0, none⟩), .pointer (some ⟨gm, 0, none⟩), .pointer (some ⟨gs, 0, none⟩)] u.val (Ret B W (.int .i64 (conR m L s t))) := by
  have hb := bit_le m hm
  have q0 : ∀ v : Later B W, v.val.cell? ⟨gm, 0, none⟩ = some (.int .i64 m) := fun v => by rw [v.cell hgm, hn]
  have q1 : ∀ v : Later B W, v.val.cell? ⟨gr, 0, none⟩ = some (.slice (some ⟨gt, 0, none⟩) (bit m) c) := fun v => by rw [v.cell hgr, hr]
  have q2 : ∀ v : Later B W, v.val.cell? ⟨gs, 0, none⟩ = some (.int .i64 s) := fun v => by rw [v.cell hgs, hss]
  have hsp := spTo_lt s t m
  have hor : spTo s t m ||| s < bit m := or_lt_bit hsp hs
  have o1 := i64_or (spTo s t m) s (by omega) (by omega)
  have c1 : ∀ v : Later B W, v.val.cell? ⟨gt, spTo s t m ||| s, none⟩ = some (.int .i64 (rk L (spTo s t m ||| s) : Int)) := fun v => (hT.keep_at v.below hgt).cell hor
  have c2 : ∀ v : Later B W, v.val.cell? ⟨gt, s, none⟩ = some (.int .i64 (rk L s : Int)) := fun v => (hT.keep_at v.below hgt).cell hs
  have KS := Lib.hid (fun v : Later B W => c_spread v m s t hm (by omega) ht)
  have HR : Hid (conR m L s t = (rk L (spTo s t m ||| s) : Int) - rk L s) := Lib.hid rfl
  have r1 := rk_le8 L (spTo s t m ||| s)
  have r2 := rk_le8 L s
  have w1 := IntWalk.i64_in ((rk L (spTo s t m ||| s) : Int) - (rk L s : Int)) (by omega)
  clear hn hr hT hss
  generalize conR m L s t = res at *
  generalize rk L (spTo s t m ||| s) = p1 at *
  generalize rk L s = p2 at *
  generalize spTo s t m ||| s = z2 at *
  generalize spTo s t m = z at *
  go_enter Try.func62, Try.ntmps62
  go_wp2
  refine wp_region_later u (by kernel_rfl) (by kernel_rfl) (fun _ => ?_)
  repeat (first | go_big_quiet_step (((go_at_call 61; exact KS.out _))) | (refine wpQuiet_step (fun K hK => ?_); go_simp; refine ⟨_, fun _ => rfl, ?_⟩; refine hK _ ?_; clear hK K))
  refine wpQuiet_nil ?_
  intro u
  go_wp2
  go_ret
  exact Ret.mk u (by rw [HR.out]; rfl)

end Go.Proofs.Ytjenaglgloaejaa

namespace Go.Proofs.Ytjenaglgloaejaa
open Go.RowKit
set_option linter.unusedVariables false

/-- the contract of rotaref.Ranks at a list of bases that is a family -/
theorem c_ranksL {B : Nat} {W : World} (u : Later B W) (m : Nat) (hm : m ≤ 8) (L : List Nat) (a : Option Addr) (cap : Nat) (h : IntsAt B W a (ints L)) (hlen : (ints L).length ≤ 4611686018427387904) (hf : isFam (m : Int) (ints L)) (hTN : toN (ints L) = L) :
    Calls Try.prog 28 #[.agg #[.int .i64 m, .slice a (ints L).length cap]] u.val (RetP B W (fun v w => ∃ g c, v = .slice (some ⟨g, 0, none⟩) (bit m) c ∧ ITab w g (bit m) (fun j => (rk L j : Int)))) := by
  have := c_refRanks u m hm (ints L) a cap h hlen hf
  rwa [hTN] at this
theorem RowAt1.new (w : World) (t : TypeId) (v : Value) : RowAt1 (w.alloc (.cells #[v] t)) w.heap.size t v := heap_alloc_new w _
theorem RowAt1.keepAt {w w' : World} {g B : Nat} {t : TypeId} {v : Value} (h : RowAt1 w g t v) (hb : Below B w w') (hg : g < B) : RowAt1 w' g t v := by
  show w'.heap[g]? = _
  rw [hb.block g hg]; exact h

set_option maxRecDepth 100000 in
set_option maxHeartbeats 8000000 in
theorem c_refDeleted {B : Nat} {W : World} (u : Later B W) (m : Nat) (hm : m ≤ 8) (L : List Nat) (a : Option Addr) (cap : Nat) (h : IntsAt B W a (ints L)) (hlen : (ints L).length ≤ 4611686018427387904) (hf : isFam (m : Int) (ints L)) (hTN : toN (ints L) = L) (s : Nat) (hs : s < bit m) :
    Calls Try.prog 30 #[.agg #[.int .i64 m, .slice a (ints L).length cap], .int .i64 s] u.val (RetP B W (MatO B (cnt s m : Nat) (ints (those (cnt s m) (ofRank (cnt s m) (delR m L s)))))) := by
  have hb := bit_le m hm
  have hB := u.size
  have T0 : Hid (Two (u.val.alloc (.cells #[.int .i64 m, .slice a (ints L).length cap] 24)) u.val.heap.size 24 (.int .i64 m) (.slice a (ints L).length cap)) := Lib.hid (Two.new _ _ _ _)
  have hrr : u.val.heap.size < (u.val.alloc (.cells #[.int .i64 m, .slice a (ints L).length cap] 24)).heap.size := by simp
  have hI : IntsAt (u.val.alloc (.cells #[.int .i64 m, .slice a (ints L).length cap] 24)).heap.size (u.val.alloc (.cells #[.int .i64 m, .slice a (ints L).length cap] 24)) a (ints L) := h.to (u.alloc _)
  have HV : Hid (∀ v : Later (u.val.alloc (.cells #[.int .i64 m, .slice a (ints L).length cap] 24)).heap.size (u.val.alloc (.cells #[.int .i64 m, .slice a (ints L).length cap] 24)), ∃ w : Later B W, w.val = v.val) := Lib.hid (fun v => ⟨(u.alloc _).up v, rfl⟩)
  have q0 : ∀ w : Later (u.val.alloc (.cells #[.int .i64 m, .slice a (ints L).length cap] 24)).heap.size (u.val.alloc (.cells #[.int .i64 m, .slice a (ints L).length cap] 24)), w.val.cell? ⟨u.val.heap.size, 0, none⟩ = some (.int .i64 m) := fun w => (T0.out.keep w.below).c0
  have q1 : ∀ w : Later (u.val.alloc (.cells #[.int .i64 m, .slice a (ints L).length cap] 24)).heap.size (u.val.alloc (.cells #[.int .i64 m, .slice a (ints L).length cap] 24)), w.val.cell? ⟨u.val.heap.size, 1, none⟩ = some (.slice a (ints L).length cap) := fun w => (T0.out.keep w.below).c1
  have p0 : (u.val.alloc (.cells #[.int .i64 m, .slice a (ints L).length cap] 24)).cell? ⟨u.val.heap.size, 0, none⟩ = some (.int .i64 m) := T0.out.c0
  have p1 : (u.val.alloc (.cells #[.int .i64 m, .slice a (ints L).length cap] 24)).cell? ⟨u.val.heap.size, 1, none⟩ = some (.slice a (ints L).length cap) := T0.out.c1
  have hZ : ((u.val.alloc (.cells #[.int .i64 m, .slice a (ints L).length cap] 24)).alloc (.cells #[.int .i64 s] 3)).heap.size = u.val.heap.size + 2 := by simp
  have XM := RowL.new ((u.val.alloc (.cells #[.int .i64 m, .slice a (ints L).length cap] 24)).alloc (.cells #[.int .i64 s] 3)) 24 [.int .i64 0, .slice none 0 0]
  rw [hZ] at XM
  have HZY : Hid (∃ w : Later (u.val.alloc (.cells #[.int .i64 m, .slice a (ints L).length cap] 24)).heap.size (u.val.alloc (.cells #[.int .i64 m, .slice a (ints L).length cap] 24)), w.val = (((u.val.alloc (.cells #[.int .i64 m, .slice a (ints L).length cap] 24)).alloc (.cells #[.int .i64 s] 3)).alloc (.cells #[.int .i64 0, .slice none 0 0] 24))) := Lib.hid ⟨((Later.self (u.val.alloc (.cells #[.int .i64 m, .slice a (ints L).length cap] 24))).alloc _).alloc _, rfl⟩
  have hM1 : (u.val.alloc (.cells #[.int .i64 m, .slice a (ints L).length cap] 24)).heap.size = u.val.heap.size + 1 := by simp
  have XS0 := RowAt1.new (u.val.alloc (.cells #[.int .i64 m, .slice a (ints L).length cap] 24)) 3 (.int .i64 s)
  rw [hM1] at XS0
  have XS := Lib.hid (XS0.keepAt (((Below.refl ((u.val.alloc (.cells #[.int .i64 m, .slice a (ints L).length cap] 24)).alloc (.cells #[.int .i64 s] 3)).heap.size ((u.val.alloc (.cells #[.int .i64 m, .slice a (ints L).length cap] 24)).alloc (.cells #[.int .i64 s] 3))).alloc (Nat.le_refl _) (.cells #[.int .i64 0, .slice none 0 0] 24))) (by rw [hZ]; omega))
  clear XS0
  have KR : Hid (Calls Try.prog 28 #[.agg #[.int .i64 m, .slice a (ints L).length cap]] (((u.val.alloc (.cells #[.int .i64 m, .slice a (ints L).length cap] 24)).alloc (.cells #[.int .i64 s] 3)).alloc (.cells #[.int .i64 0, .slice none 0 0] 24)) (RetP (((u.val.alloc (.cells #[.int .i64 m, .slice a (ints L).length cap] 24)).alloc (.cells #[.int .i64 s] 3)).alloc (.cells #[.int .i64 0, .slice none 0 0] 24)).heap.size (((u.val.alloc (.cells #[.int .i64 m, .slice a (ints L).length cap] 24)).alloc (.cells #[.int .i64 s] 3)).alloc (.cells #[.int .i64 0, .slice none 0 0] 24)) (fun v w => ∃ g c, v = .slice (some ⟨g, 0, none⟩) (bit m) c ∧ ITab w g (bit m) (fun j => (rk L j : Int))))) := Lib.hid (c_ranksL (Later.self (((u.val.alloc (.cells #[.int .i64 m, .slice a (ints L).length cap] 24)).alloc (.cells #[.int .i64 s] 3)).alloc (.cells #[.int .i64 0, .slice none 0 0] 24))) m hm L a cap (hI.to (((Later.self (u.val.alloc (.cells #[.int .i64 m, .slice a (ints L).length cap] 24))).alloc _).alloc _)) hlen hf hTN)
  have hY1 : Hid ((((u.val.alloc (.cells #[.int .i64 m, .slice a (ints L).length cap] 24)).alloc (.cells #[.int .i64 s] 3)).alloc (.cells #[.int .i64 0, .slice none 0 0] 24)).heap.size = u.val.heap.size + 3) := Lib.hid (by simp)
  have z0 : (((u.val.alloc (.cells #[.int .i64 m, .slice a (ints L).length cap] 24)).alloc (.cells #[.int .i64 s] 3)).alloc (.cells #[.int .i64 0, .slice none 0 0] 24)).cell? ⟨u.val.heap.size, 0, none⟩ = some (.int .i64 m) := by obtain ⟨w, hw⟩ := HZY.out; rw [← hw]; exact q0 w
  have z1 : (((u.val.alloc (.cells #[.int .i64 m, .slice a (ints L).length cap] 24)).alloc (.cells #[.int .i64 s] 3)).alloc (.cells #[.int .i64 0, .slice none 0 0] 24)).cell? ⟨u.val.heap.size, 1, none⟩ = some (.slice a (ints L).length cap) := by obtain ⟨w, hw⟩ := HZY.out; rw [← hw]; exact q1 w
  have HVY : Hid (∃ w : Later B W, w.val = (((u.val.alloc (.cells #[.int .i64 m, .slice a (ints L).length cap] 24)).alloc (.cells #[.int .i64 s] 3)).alloc (.cells #[.int .i64 0, .slice none 0 0] 24))) := Lib.hid ⟨(((u.alloc _).alloc _).alloc _), rfl⟩
  have HX := Lib.hid XM
  clear XM hI h hf hTN HZY q0 q1 p0 p1 T0 hrr HV hZ hM1
  go_enter Try.func30, Try.ntmps30
  go_upto_region 1 with fail
  generalize (((u.val.alloc (.cells #[.int .i64 m, .slice a (ints L).length cap] 24)).alloc (.cells #[.int .i64 s] 3)).alloc (.cells #[.int .i64 0, .slice none 0 0] 24)) = Y at *
  generalize u.val.heap.size = gu at *
  obtain ⟨y, hy⟩ := HVY.out
  go_upto_region 2 with (first | (go_at_call 28; ((with_reducible refine (KR.out).mono ?_); rintro e _ ⟨_, rfl, ⟨gt, c, rfl, hT⟩, v1, rfl⟩)))
  have XB : Hid (RowAt1 (v1.val.alloc (.cells #[.slice (some ⟨gt, 0, none⟩) (bit m) c] 22)) v1.val.heap.size 22 (.slice (some ⟨gt, 0, none⟩) (bit m) c)) := Lib.hid (RowAt1.new _ _ _)
  have hvs := v1.size
  have HT : Hid (ITab (v1.val.alloc (.cells #[.slice (some ⟨gt, 0, none⟩) (bit m) c] 22)) gt (bit m) (fun j => (rk L j : Int))) := Lib.hid (hT.keep ((Below.refl _ _).alloc (Nat.le_refl _) _))
  have hgt : gt < v1.val.heap.size := hT.lt
  have HXX : Hid (RowL (v1.val.alloc (.cells #[.slice (some ⟨gt, 0, none⟩) (bit m) c] 22)) (gu + 2) 24 [.int .i64 0, .slice none 0 0]) := Lib.hid ((HX.out.keep v1.below).keep_at ((Below.refl _ _).alloc (Nat.le_refl _) _) (by have := hY1.out; omega))
  have x0 : (v1.val.alloc (.cells #[.slice (some ⟨gt, 0, none⟩) (bit m) c] 22)).cell? ⟨gu, 0, none⟩ = some (.int .i64 m) := by
    have e1 : v1.val.cell? ⟨gu, 0, none⟩ = some (.int .i64 m) := by rw [v1.cell (a := ⟨gu, 0, none⟩) (by have := hY1.out; show gu < _; omega)]; exact z0
    exact ((Later.self v1.val).alloc _).cell (a := ⟨gu, 0, none⟩) (by have := hY1.out; show gu < _; omega) ▸ e1
  have XSX : Hid (RowAt1 (v1.val.alloc (.cells #[.slice (some ⟨gt, 0, none⟩) (bit m) c] 22)) (gu + 1) 3 (.int .i64 s)) := Lib.hid ((XS.out.keep v1.below).keepAt ((Below.refl _ _).alloc (Nat.le_refl _) _) (by have := hY1.out; omega))
  have HVX : Hid (∀ v : Later (v1.val.alloc (.cells #[.slice (some ⟨gt, 0, none⟩) (bit m) c] 22)).heap.size (v1.val.alloc (.cells #[.slice (some ⟨gt, 0, none⟩) (bit m) c] 22)), ∃ w : Later B W, w.val = v.val) := Lib.hid (fun v => ⟨y.to v.val (by rw [hy]; exact (((v1.alloc (.cells #[.slice (some ⟨gt, 0, none⟩) (bit m) c] 22)).up v).below).mono (by have := y.size; rw [hy] at this; exact this)), rfl⟩)
  have hxs : Hid ((v1.val.alloc (.cells #[.slice (some ⟨gt, 0, none⟩) (bit m) c] 22)).heap.size = v1.val.heap.size + 1) := Lib.hid (by simp)
  have hYs := hY1.out
  clear KR HX hT z0 z1 XS hy
  generalize (v1.val.alloc (.cells #[.slice (some ⟨gt, 0, none⟩) (bit m) c] 22)) = X at *
  generalize v1.val.heap.size = gb at *
  have hg2 : gu + 2 < X.heap.size := by have := hxs.out; omega
  have f0 : ∀ (w : Later X.heap.size X), w.val.cell? ⟨gu + 2, 0, none⟩ = some (.int .i64 0) := fun w => (HXX.out.keep_at w.below hg2).cell rfl
  have z0 : ∀ (w : Later X.heap.size X), w.val.frozen? ⟨gu + 2, 0, none⟩ = false := fun w => (HXX.out.keep_at w.below hg2).fz 0
  have f1 : ∀ (w : Later X.heap.size X) (x0 : Value), (w.val.setCell ⟨gu + 2, 0, none⟩ x0).cell? ⟨gu + 2, 1, none⟩ = some (.slice none 0 0) := fun w x0 => ((HXX.out.keep_at w.below hg2).set 0 x0).cell rfl
  have z1 : ∀ (w : Later X.heap.size X) (x0 : Value), (w.val.setCell ⟨gu + 2, 0, none⟩ x0).frozen? ⟨gu + 2, 1, none⟩ = false := fun w x0 => ((HXX.out.keep_at w.below hg2).set 0 x0).fz 1
  have KO : Hid (∀ w : Later X.heap.size X, Calls Try.prog 59 #[.int .i64 (cnt s m : Nat), .func (.func 60) #[] #[.pointer (some ⟨gb, 0, none⟩), .pointer (some ⟨gu, 0, none⟩), .pointer (some ⟨gu + 1, 0, none⟩)]] w.val (RetP X.heap.size X (MatO X.heap.size (cnt s m : Nat) (ints (those (cnt s m) (ofRank (cnt s m) (delR m L s))))))) := Lib.hid (fun w => by
    refine c_ofRank w (cnt s m) (by have := cnt_le s m; omega) 60 _ (delR m L s) (fun args w => by kernel_rfl) (fun x0 v t ht => ?_)
    obtain ⟨x, hx⟩ : ∃ x : Later X.heap.size X, x = x0 := ⟨_, rfl⟩
    subst hx
    have hxz := x.size
    have hxo := hxs.out
    exact c_delTell v m hm L s t gu gb (gu + 1) gt c hs (by have := bit_le (cnt s m) (by have := cnt_le s m; omega); omega) (by omega) (by omega) (by omega) (by omega) (by rw [x.cell (a := ⟨gu, 0, none⟩) (by show gu < _; omega)]; exact x0) ((XB.out.keepAt x.below (by omega)).c0) ((XSX.out.keepAt x.below (by omega)).c0) (HT.out.keep_at x.below (by omega)))
  have KS : Hid (∀ w : Later X.heap.size X, Calls Try.prog 27 #[.int .i64 s] w.val (Ret w.val.heap.size w.val (.int .i64 (sz s)))) := Lib.hid (fun w => c_size (Later.self w.val) s (by omega))
  have hcs := cnt_sz hm hs
  have hsub : ((m : Nat) : Int) - ((sz s : Nat) : Int) = ((cnt s m : Nat) : Int) := by omega
  have wsub := IntWalk.i64_in ((cnt s m : Nat) : Int) (by omega)
  have y0 : ∀ w : Later X.heap.size X, w.val.cell? ⟨gu, 0, none⟩ = some (.int .i64 m) := fun w => by rw [w.cell (a := ⟨gu, 0, none⟩) (by have := hxs.out; show gu < _; omega)]; exact x0
  have y1 : ∀ w : Later X.heap.size X, w.val.cell? ⟨gu + 1, 0, none⟩ = some (.int .i64 s) := fun w => (XSX.out.keepAt w.below (by have := hxs.out; omega)).c0
  generalize hA : those (cnt s m) (ofRank (cnt s m) (delR m L s)) = A at *
  clear hA XB HT
  generalize cnt s m = nn at *
  generalize sz s = zz at *
  have hBg : B ≤ gu + 2 := by omega
  have fin : ∀ (v2 : Later X.heap.size X) (ad : Option Addr) (cp : Nat) (tm : Array Value), Own X.heap.size v2.val ad cp (ints A) → tm.getD 4 undef = .pointer (some ⟨gu + 2, 0, none⟩) → bodyPost Try.prog Try.f30 (RetP B W (MatO B (nn : Nat) (ints A))) .ret { tmps := tm, defers := [] } ((v2.val.setCell ⟨gu + 2, 0, none⟩ (.int .i64 (nn : Nat))).setCell ⟨gu + 2, 1, none⟩ (.slice ad (ints A).length cp)) := fun v2 ad cp tm hO htm => by
    refine bodyPost_ret (results_cell_row rfl _ _ (gu + 2) 24 #[.int .i64 (nn : Nat), .slice ad (ints A).length cp] (0, 0) _ htm (((HXX.out.keep v2.below).set 0 _).set 1 _) Try.underlying24 rfl (by kernel_rfl)) rfl ?_
    obtain ⟨z1, hz1⟩ := later_set (HVX.out v2) (g := gu + 2) (i := 0) hBg (.int .i64 (nn : Nat))
    obtain ⟨z2, hz2⟩ := later_set ⟨z1, hz1⟩ (g := gu + 2) (i := 1) hBg (.slice ad (ints A).length cp)
    refine RetP.of ⟨z2, hz2⟩ ?_
    exact ⟨_, _, rfl, ((hO.set hg2 _).set hg2 _).mono (by omega)⟩
  have HFIN := Lib.hid fin
  clear fin HVX HXX
  obtain ⟨x, hx⟩ : ∃ x : Later X.heap.size X, x.val = X := ⟨Later.self _, rfl⟩
  rw [← hx]
  clear hx x0
  have s0 : x.val.drew.cell? ⟨gu, 0, none⟩ = some (.int .i64 m) ∧ x.val.drew.cell? ⟨gu + 1, 0, none⟩ = some (.int .i64 s) := ⟨y0 x.drew, y1 x.drew⟩
  have se : ∀ (w : Later X.heap.size X) (p q : Value), ((w.val.setCell ⟨gu + 2, 0, none⟩ p).setCell ⟨gu + 2, 1, none⟩ q).cell? ⟨gu, 0, none⟩ = some (.int .i64 m) ∧ ((w.val.setCell ⟨gu + 2, 0, none⟩ p).setCell ⟨gu + 2, 1, none⟩ q).cell? ⟨gu + 1, 0, none⟩ = some (.int .i64 s) := fun w p q => by
    refine ⟨?_, ?_⟩
    · rw [World.cell?_setCell_far _ _ _ _ (show gu + 2 ≠ gu by omega), World.cell?_setCell_far _ _ _ _ (show gu + 2 ≠ gu by omega)]; exact y0 w
    · rw [World.cell?_setCell_far _ _ _ _ (show gu + 2 ≠ gu + 1 by omega), World.cell?_setCell_far _ _ _ _ (show gu + 2 ≠ gu + 1 by omega)]; exact y1 w
  have KSd : Hid (Calls Try.prog 27 #[.int .i64 s] x.val.drew (Ret X.heap.size X (.int .i64 zz))) := Lib.hid ((KS.out x.drew).mono (by
    rintro e _ ⟨rfl, w2, rfl⟩
    exact Ret.mk (x.drew.up w2) rfl))
  go_region_held3 (fun w' => w'.cell? ⟨gu, 0, none⟩ = some (.int .i64 m) ∧ w'.cell? ⟨gu + 1, 0, none⟩ = some (.int .i64 s)) (first | exact s0 | exact ⟨y0 v3, y1 v3⟩ | exact ⟨y0 v2, y1 v2⟩ | exact se v2 _ _) (first | (go_at_call 27; (with_reducible refine (KSd.out).mono ?_); rintro e _ ⟨rfl, v3, rfl⟩) | (go_at_call 59; (with_reducible refine (KO.out v3).mono ?_); rintro e _ ⟨_, rfl, ⟨ad, cp, rfl, hO⟩, v2, rfl⟩))
  all_goals
    go_wp2
    exact HFIN.out v2 ad cp _ hO rfl

set_option maxRecDepth 100000 in
set_option maxHeartbeats 8000000 in
theorem c_refContracted {B : Nat} {W : World} (u : Later B W) (m : Nat) (hm : m ≤ 8) (L : List Nat) (a : Option Addr) (cap : Nat) (h : IntsAt B W a (ints L)) (hlen : (ints L).length ≤ 4611686018427387904) (hf : isFam (m : Int) (ints L)) (hTN : toN (ints L) = L) (s : Nat) (hs : s < bit m) :
    Calls Try.prog 31 #[.agg #[.int .i64 m, .slice a (ints L).length cap], .int .i64 s] u.val (RetP B W (MatO B (cnt s m : Nat) (ints (those (cnt s m) (ofRank (cnt s m) (conR m L s)))))) := by
  have hb := bit_le m hm
  have hB := u.size
  have T0 : Hid (Two (u.val.alloc (.cells #[.int .i64 m, .slice a (ints L).length cap] 24)) u.val.heap.size 24 (.int .i64 m) (.slice a (ints L).length cap)) := Lib.hid (Two.new _ _ _ _)
  have hrr : u.val.heap.size < (u.val.alloc (.cells #[.int .i64 m, .slice a (ints L).length cap] 24)).heap.size := by simp
  have hI : IntsAt (u.val.alloc (.cells #[.int .i64 m, .slice a (ints L).length cap] 24)).heap.size (u.val.alloc (.cells #[.int .i64 m, .slice a (ints L).length cap] 24)) a (ints L) := h.to (u.alloc _)
  have HV : Hid (∀ v : Later (u.val.alloc (.cells #[.int .i64 m, .slice a (ints L).length cap] 24)).heap.size (u.val.alloc (.cells #[.int .i64 m, .slice a (ints L).length cap] 24)), ∃ w : Later B W, w.val = v.val) := Lib.hid (fun v => ⟨(u.alloc _).up v, rfl⟩)
  have q0 : ∀ w : Later (u.val.alloc (.cells #[.int .i64 m, .slice a (ints L).length cap] 24)).heap.size (u.val.alloc (.cells #[.int .i64 m, .slice a (ints L).length cap] 24)), w.val.cell? ⟨u.val.heap.size, 0, none⟩ = some (.int .i64 m) := fun w => (T0.out.keep w.below).c0
  have q1 : ∀ w : Later (u.val.alloc (.cells #[.int .i64 m, .slice a (ints L).length cap] 24)).heap.size (u.val.alloc (.cells #[.int .i64 m, .slice a (ints L).length cap] 24)), w.val.cell? ⟨u.val.heap.size, 1, none⟩ = some (.slice a (ints L).length cap) := fun w => (T0.out.keep w.below).c1
  have p0 : (u.val.alloc (.cells #[.int .i64 m, .slice a (ints L).length cap] 24)).cell? ⟨u.val.heap.size, 0, none⟩ = some (.int .i64 m) := T0.out.c0
  have p1 : (u.val.alloc (.cells #[.int .i64 m, .slice a (ints L).length cap] 24)).cell? ⟨u.val.heap.size, 1, none⟩ = some (.slice a (ints L).length cap) := T0.out.c1
  have hZ : ((u.val.alloc (.cells #[.int .i64 m, .slice a (ints L).length cap] 24)).alloc (.cells #[.int .i64 s] 3)).heap.size = u.val.heap.size + 2 := by simp
  have XM := RowL.new ((u.val.alloc (.cells #[.int .i64 m, .slice a (ints L).length cap] 24)).alloc (.cells #[.int .i64 s] 3)) 24 [.int .i64 0, .slice none 0 0]
  rw [hZ] at XM
  have HZY : Hid (∃ w : Later (u.val.alloc (.cells #[.int .i64 m, .slice a (ints L).length cap] 24)).heap.size (u.val.alloc (.cells #[.int .i64 m, .slice a (ints L).length cap] 24)), w.val = (((u.val.alloc (.cells #[.int .i64 m, .slice a (ints L).length cap] 24)).alloc (.cells #[.int .i64 s] 3)).alloc (.cells #[.int .i64 0, .slice none 0 0] 24))) := Lib.hid ⟨((Later.self (u.val.alloc (.cells #[.int .i64 m, .slice a (ints L).length cap] 24))).alloc _).alloc _, rfl⟩
  have hM1 : (u.val.alloc (.cells #[.int .i64 m, .slice a (ints L).length cap] 24)).heap.size = u.val.heap.size + 1 := by simp
  have XS0 := RowAt1.new (u.val.alloc (.cells #[.int .i64 m, .slice a (ints L).length cap] 24)) 3 (.int .i64 s)
  rw [hM1] at XS0
  have XS := Lib.hid (XS0.keepAt (((Below.refl ((u.val.alloc (.cells #[.int .i64 m, .slice a (ints L).length cap] 24)).alloc (.cells #[.int .i64 s] 3)).heap.size ((u.val.alloc (.cells #[.int .i64 m, .slice a (ints L).length cap] 24)).alloc (.cells #[.int .i64 s] 3))).alloc (Nat.le_refl _) (.cells #[.int .i64 0, .slice none 0 0] 24))) (by rw [hZ]; omega))
  clear XS0
  have KR : Hid (Calls Try.prog 28 #[.agg #[.int .i64 m, .slice a (ints L).length cap]] (((u.val.alloc (.cells #[.int .i64 m, .slice a (ints L).length cap] 24)).alloc (.cells #[.int .i64 s] 3)).alloc (.cells #[.int .i64 0, .slice none 0 0] 24)) (RetP (((u.val.alloc (.cells #[.int .i64 m, .slice a (ints L).length cap] 24)).alloc (.cells #[.int .i64 s] 3)).alloc (.cells #[.int .i64 0, .slice none 0 0] 24)).heap.size (((u.val.alloc (.cells #[.int .i64 m, .slice a (ints L).length cap] 24)).alloc (.cells #[.int .i64 s] 3)).alloc (.cells #[.int .i64 0, .slice none 0 0] 24)) (fun v w => ∃ g c, v = .slice (some ⟨g, 0, none⟩) (bit m) c ∧ ITab w g (bit m) (fun j => (rk L j : Int))))) := Lib.hid (c_ranksL (Later.self (((u.val.alloc (.cells #[.int .i64 m, .slice a (ints L).length cap] 24)).alloc (.cells #[.int .i64 s] 3)).alloc (.cells #[.int .i64 0, .slice none 0 0] 24))) m hm L a cap (hI.to (((Later.self (u.val.alloc (.cells #[.int .i64 m, .slice a (ints L).length cap] 24))).alloc _).alloc _)) hlen hf hTN)
  have hY1 : Hid ((((u.val.alloc (.cells #[.int .i64 m, .slice a (ints L).length cap] 24)).alloc (.cells #[.int .i64 s] 3)).alloc (.cells #[.int .i64 0, .slice none 0 0] 24)).heap.size = u.val.heap.size + 3) := Lib.hid (by simp)
  have z0 : (((u.val.alloc (.cells #[.int .i64 m, .slice a (ints L).length cap] 24)).alloc (.cells #[.int .i64 s] 3)).alloc (.cells #[.int .i64 0, .slice none 0 0] 24)).cell? ⟨u.val.heap.size, 0, none⟩ = some (.int .i64 m) := by obtain ⟨w, hw⟩ := HZY.out; rw [← hw]; exact q0 w
  have z1 : (((u.val.alloc (.cells #[.int .i64 m, .slice a (ints L).length cap] 24)).alloc (.cells #[.int .i64 s] 3)).alloc (.cells #[.int .i64 0, .slice none 0 0] 24)).cell? ⟨u.val.heap.size, 1, none⟩ = some (.slice a (ints L).length cap) := by obtain ⟨w, hw⟩ := HZY.out; rw [← hw]; exact q1 w
  have HVY : Hid (∃ w : Later B W, w.val = (((u.val.alloc (.cells #[.int .i64 m, .slice a (ints L).length cap] 24)).alloc (.cells #[.int .i64 s] 3)).alloc (.cells #[.int .i64 0, .slice none 0 0] 24))) := Lib.hid ⟨(((u.alloc _).alloc _).alloc _), rfl⟩
  have HX := Lib.hid XM
  clear XM hI h hf hTN HZY q0 q1 p0 p1 T0 hrr HV hZ hM1
  go_enter Try.func31, Try.ntmps31
  go_upto_region 1 with fail
  generalize (((u.val.alloc (.cells #[.int .i64 m, .slice a (ints L).length cap] 24)).alloc (.cells #[.int .i64 s] 3)).alloc (.cells #[.int .i64 0, .slice none 0 0] 24)) = Y at *
  generalize u.val.heap.size = gu at *
  obtain ⟨y, hy⟩ := HVY.out
  go_upto_region 2 with (first | (go_at_call 28; ((with_reducible refine (KR.out).mono ?_); rintro e _ ⟨_, rfl, ⟨gt, c, rfl, hT⟩, v1, rfl⟩)))
  have XB : Hid (RowAt1 (v1.val.alloc (.cells #[.slice (some ⟨gt, 0, none⟩) (bit m) c] 22)) v1.val.heap.size 22 (.slice (some ⟨gt, 0, none⟩) (bit m) c)) := Lib.hid (RowAt1.new _ _ _)
  have hvs := v1.size
  have HT : Hid (ITab (v1.val.alloc (.cells #[.slice (some ⟨gt, 0, none⟩) (bit m) c] 22)) gt (bit m) (fun j => (rk L j : Int))) := Lib.hid (hT.keep ((Below.refl _ _).alloc (Nat.le_refl _) _))
  have hgt : gt < v1.val.heap.size := hT.lt
  have HXX : Hid (RowL (v1.val.alloc (.cells #[.slice (some ⟨gt, 0, none⟩) (bit m) c] 22)) (gu + 2) 24 [.int .i64 0, .slice none 0 0]) := Lib.hid ((HX.out.keep v1.below).keep_at ((Below.refl _ _).alloc (Nat.le_refl _) _) (by have := hY1.out; omega))
  have x0 : (v1.val.alloc (.cells #[.slice (some ⟨gt, 0, none⟩) (bit m) c] 22)).cell? ⟨gu, 0, none⟩ = some (.int .i64 m) := by
    have e1 : v1.val.cell? ⟨gu, 0, none⟩ = some (.int .i64 m) := by rw [v1.cell (a := ⟨gu, 0, none⟩) (by have := hY1.out; show gu < _; omega)]; exact z0
    exact ((Later.self v1.val).alloc _).cell (a := ⟨gu, 0, none⟩) (by have := hY1.out; show gu < _; omega) ▸ e1
  have XSX : Hid (RowAt1 (v1.val.alloc (.cells #[.slice (some ⟨gt, 0, none⟩) (bit m) c] 22)) (gu + 1) 3 (.int .i64 s)) := Lib.hid ((XS.out.keep v1.below).keepAt ((Below.refl _ _).alloc (Nat.le_refl _) _) (by have := hY1.out; omega))
  have HVX : Hid (∀ v : Later (v1.val.alloc (.cells #[.slice (some ⟨gt, 0, none⟩) (bit m) c] 22)).heap.size (v1.val.alloc (.cells #[.slice (some ⟨gt, 0, none⟩) (bit m) c] 22)), ∃ w : Later B W, w.val = v.val) := Lib.hid (fun v => ⟨y.to v.val (by rw [hy]; exact (((v1.alloc (.cells #[.slice (some ⟨gt, 0, none⟩) (bit m) c] 22)).up v).below).mono (by have := y.size; rw [hy] at this; exact this)), rfl⟩)
  have hxs : Hid ((v1.val.alloc (.cells #[.slice (some ⟨gt, 0, none⟩) (bit m) c] 22)).heap.size = v1.val.heap.size + 1) := Lib.hid (by simp)
  have hYs := hY1.out
  clear KR HX hT z0 z1 XS hy
  generalize (v1.val.alloc (.cells #[.slice (some ⟨gt, 0, none⟩) (bit m) c] 22)) = X at *
  generalize v1.val.heap.size = gb at *
  have hg2 : gu + 2 < X.heap.size := by have := hxs.out; omega
  have f0 : ∀ (w : Later X.heap.size X), w.val.cell? ⟨gu + 2, 0, none⟩ = some (.int .i64 0) := fun w => (HXX.out.keep_at w.below hg2).cell rfl
  have z0 : ∀ (w : Later X.heap.size X), w.val.frozen? ⟨gu + 2, 0, none⟩ = false := fun w => (HXX.out.keep_at w.below hg2).fz 0
  have f1 : ∀ (w : Later X.heap.size X) (x0 : Value), (w.val.setCell ⟨gu + 2, 0, none⟩ x0).cell? ⟨gu + 2, 1, none⟩ = some (.slice none 0 0) := fun w x0 => ((HXX.out.keep_at w.below hg2).set 0 x0).cell rfl
  have z1 : ∀ (w : Later X.heap.size X) (x0 : Value), (w.val.setCell ⟨gu + 2, 0, none⟩ x0).frozen? ⟨gu + 2, 1, none⟩ = false := fun w x0 => ((HXX.out.keep_at w.below hg2).set 0 x0).fz 1
  have KO : Hid (∀ w : Later X.heap.size X, Calls Try.prog 59 #[.int .i64 (cnt s m : Nat), .func (.func 62) #[] #[.pointer (some ⟨gb, 0, none⟩), .pointer (some ⟨gu, 0, none⟩), .pointer (some ⟨gu + 1, 0, none⟩)]] w.val (RetP X.heap.size X (MatO X.heap.size (cnt s m : Nat) (ints (those (cnt s m) (ofRank (cnt s m) (conR m L s))))))) := Lib.hid (fun w => by
    refine c_ofRank w (cnt s m) (by have := cnt_le s m; omega) 62 _ (conR m L s) (fun args w => by kernel_rfl) (fun x0 v t ht => ?_)
    obtain ⟨x, hx⟩ : ∃ x : Later X.heap.size X, x = x0 := ⟨_, rfl⟩
    subst hx
    have hxz := x.size
    have hxo := hxs.out
    exact c_conTell v m hm L s t gu gb (gu + 1) gt c hs (by have := bit_le (cnt s m) (by have := cnt_le s m; omega); omega) (by omega) (by omega) (by omega) (by omega) (by rw [x.cell (a := ⟨gu, 0, none⟩) (by show gu < _; omega)]; exact x0) ((XB.out.keepAt x.below (by omega)).c0) ((XSX.out.keepAt x.below (by omega)).c0) (HT.out.keep_at x.below (by omega)))
  have KS : Hid (∀ w : Later X.heap.size X, Calls Try.prog 27 #[.int .i64 s] w.val (Ret w.val.heap.size w.val (.int .i64 (sz s)))) := Lib.hid (fun w => c_size (Later.self w.val) s (by omega))
  have hcs := cnt_sz hm hs
  have hsub : ((m : Nat) : Int) - ((sz s : Nat) : Int) = ((cnt s m : Nat) : Int) := by omega
  have wsub := IntWalk.i64_in ((cnt s m : Nat) : Int) (by omega)
  have y0 : ∀ w : Later X.heap.size X, w.val.cell? ⟨gu, 0, none⟩ = some (.int .i64 m) := fun w => by rw [w.cell (a := ⟨gu, 0, none⟩) (by have := hxs.out; show gu < _; omega)]; exact x0
  have y1 : ∀ w : Later X.heap.size X, w.val.cell? ⟨gu + 1, 0, none⟩ = some (.int .i64 s) := fun w => (XSX.out.keepAt w.below (by have := hxs.out; omega)).c0
  generalize hA : those (cnt s m) (ofRank (cnt s m) (conR m L s)) = A at *
  clear hA XB HT
  generalize cnt s m = nn at *
  generalize sz s = zz at *
  have hBg : B ≤ gu + 2 := by omega
  have fin : ∀ (v2 : Later X.heap.size X) (ad : Option Addr) (cp : Nat) (tm : Array Value), Own X.heap.size v2.val ad cp (ints A) → tm.getD 4 undef = .pointer (some ⟨gu + 2, 0, none⟩) → bodyPost Try.prog Try.f31 (RetP B W (MatO B (nn : Nat) (ints A))) .ret { tmps := tm, defers := [] } ((v2.val.setCell ⟨gu + 2, 0, none⟩ (.int .i64 (nn : Nat))).setCell ⟨gu + 2, 1, none⟩ (.slice ad (ints A).length cp)) := fun v2 ad cp tm hO htm => by
    refine bodyPost_ret (results_cell_row rfl _ _ (gu + 2) 24 #[.int .i64 (nn : Nat), .slice ad (ints A).length cp] (0, 0) _ htm (((HXX.out.keep v2.below).set 0 _).set 1 _) Try.underlying24 rfl (by kernel_rfl)) rfl ?_
    obtain ⟨z1, hz1⟩ := later_set (HVX.out v2) (g := gu + 2) (i := 0) hBg (.int .i64 (nn : Nat))
    obtain ⟨z2, hz2⟩ := later_set ⟨z1, hz1⟩ (g := gu + 2) (i := 1) hBg (.slice ad (ints A).length cp)
    refine RetP.of ⟨z2, hz2⟩ ?_
    exact ⟨_, _, rfl, ((hO.set hg2 _).set hg2 _).mono (by omega)⟩
  have HFIN := Lib.hid fin
  clear fin HVX HXX
  obtain ⟨x, hx⟩ : ∃ x : Later X.heap.size X, x.val = X := ⟨Later.self _, rfl⟩
  rw [← hx]
  clear hx x0
  have s0 : x.val.drew.cell? ⟨gu, 0, none⟩ = some (.int .i64 m) ∧ x.val.drew.cell? ⟨gu + 1, 0, none⟩ = some (.int .i64 s) := ⟨y0 x.drew, y1 x.drew⟩
  have se : ∀ (w : Later X.heap.size X) (p q : Value), ((w.val.setCell ⟨gu + 2, 0, none⟩ p).setCell ⟨gu + 2, 1, none⟩ q).cell? ⟨gu, 0, none⟩ = some (.int .i64 m) ∧ ((w.val.setCell ⟨gu + 2, 0, none⟩ p).setCell ⟨gu + 2, 1, none⟩ q).cell? ⟨gu + 1, 0, none⟩ = some (.int .i64 s) := fun w p q => by
    refine ⟨?_, ?_⟩
    · rw [World.cell?_setCell_far _ _ _ _ (show gu + 2 ≠ gu by omega), World.cell?_setCell_far _ _ _ _ (show gu + 2 ≠ gu by omega)]; exact y0 w
    · rw [World.cell?_setCell_far _ _ _ _ (show gu + 2 ≠ gu + 1 by omega), World.cell?_setCell_far _ _ _ _ (show gu + 2 ≠ gu + 1 by omega)]; exact y1 w
  have KSd : Hid (Calls Try.prog 27 #[.int .i64 s] x.val.drew (Ret X.heap.size X (.int .i64 zz))) := Lib.hid ((KS.out x.drew).mono (by
    rintro e _ ⟨rfl, w2, rfl⟩
    exact Ret.mk (x.drew.up w2) rfl))
  go_region_held3 (fun w' => w'.cell? ⟨gu, 0, none⟩ = some (.int .i64 m) ∧ w'.cell? ⟨gu + 1, 0, none⟩ = some (.int .i64 s)) (first | exact s0 | exact ⟨y0 v3, y1 v3⟩ | exact ⟨y0 v2, y1 v2⟩ | exact se v2 _ _) (first | (go_at_call 27; (with_reducible refine (KSd.out).mono ?_); rintro e _ ⟨rfl, v3, rfl⟩) | (go_at_call 59; (with_reducible refine (KO.out v3).mono ?_); rintro e _ ⟨_, rfl, ⟨ad, cp, rfl, hO⟩, v2, rfl⟩))
  all_goals
    go_wp2
    exact HFIN.out v2 ad cp _ hO rfl

end Go.Proofs.Ytjenaglgloaejaa
