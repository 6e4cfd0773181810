
/-
  rotaref.Dual, Deleted, Contracted, Cut.
-/
import Derived.Test.YtjpcelldbhdneaaMinA
import Derived.Test.YtjpcelldbhdneaaMinB
import Derived.Test.YtjpcelldbhdneaaRks
namespace Go.Proofs.Ytjpcelldbhdneaa
open Go.RowKit
set_option linter.unusedVariables false

set_option maxRecDepth 100000 in
set_option maxHeartbeats 4000000 in
theorem c_dualTell {B : Nat} {W : World} (u : Later B W) (m : Nat) (hm : m ≤ 8) (L : List Nat) (s gm gr gt c : Nat) (hs : s < bit m) (hgm : gm < B) (hgr : gr < B) (hgt : gt < B) (hn : W.cell? ⟨gm, 0, none⟩ = some (.int .i64 m)) (hr : W.cell? ⟨gr, 0, none⟩ = some (.slice (some ⟨gt, 0, none⟩) (bit m) c)) (hT : ITab W gt (bit m) (fun j => (rk L j : Int))) :
    Calls Try.prog 158 #[.int .i64 s, .pointer (some ⟨gr, 0, none⟩), .pointer (some ⟨gm, 0, none⟩)] u.val (Ret B W (.int .i64 (dualR m L s))) := by
  have hb := bit_le m hm
  have q0 : ∀ v : Later B W, v.val.cell? ⟨gm, 0, none⟩ = some (.int .i64 m) := fun v => by rw [v.cell hgm, hn]
  have q1 : ∀ v : Later B W, v.val.cell? ⟨gr, 0, none⟩ = some (.slice (some ⟨gt, 0, none⟩) (bit m) c) := fun v => by rw [v.cell hgr, hr]
  have HT : Hid (∀ (j : Nat), j < bit m → ∀ v : Later B W, v.val.cell? ⟨gt, j, none⟩ = some (.int .i64 (rk L j : Int))) := Lib.hid (fun j hj v => (hT.keep_at v.below hgt).cell hj)
  have c1 := HT.out (bit m - 1) (by omega)
  have hnl := nand_all_lt m s
  have c2 := HT.out (nand (bit m - 1) s) hnl
  have o1 := i64_andNot (bit m - 1) s (by omega) (by omega)
  have KA : Hid (∀ v : Later B W, Calls Try.prog 123 #[.int .i64 m] v.val (Ret B W (.int .i64 ((bit m - 1 : Nat) : Int)))) := Lib.hid (fun v => by
    have := c_all v (m : Int) (by omega) (by omega)
    rwa [all_nat] at this)
  have KS := Lib.hid (fun v : Later B W => c_size v s (by omega))
  have HR : Hid (dualR m L s = (sz s : Int) - rk L (bit m - 1) + rk L (nand (bit m - 1) s)) := Lib.hid rfl
  have r1 := rk_le8 L (bit m - 1)
  have r2 := rk_le8 L (nand (bit m - 1) s)
  have r3 := sz_le s
  have w1 := IntWalk.i64_in ((sz s : Int) - (rk L (bit m - 1) : Int)) (by omega)
  have w2 := IntWalk.i64_in ((sz s : Int) - (rk L (bit m - 1) : Int) + (rk L (nand (bit m - 1) s) : Int)) (by omega)
  have htl : bit m - 1 < bit m := by omega
  clear hn hr hT HT
  generalize dualR m L s = res at *
  generalize rk L (bit m - 1) = p1 at *
  generalize rk L (nand (bit m - 1) s) = p2 at *
  generalize nand (bit m - 1) s = z2 at *
  generalize bit m - 1 = top at *
  generalize sz s = z at *
  go_enter Try.func158, Try.ntmps158
  go_wp2
  refine wp_region_later u (by kernel_rfl) (by kernel_rfl) (fun _ => ?_)
  repeat (first | go_big_quiet_step ((first | (go_at_call 123; exact KA.out _) | (go_at_call 44; exact KS.out _))) | (refine wpQuiet_step (fun K hK => ?_); go_simp; refine ⟨_, fun _ => rfl, ?_⟩; refine hK _ ?_; clear hK K))
  refine wpQuiet_nil ?_
  intro u
  go_wp2
  go_ret
  exact Ret.mk u (by rw [HR.out]; rfl)

set_option maxRecDepth 100000 in
set_option maxHeartbeats 4000000 in
theorem c_delTell {B : Nat} {W : World} (u : Later B W) (m : Nat) (hm : m ≤ 8) (L : List Nat) (s t gm gr gs gt c : Nat) (hs : s < bit m) (ht : t < 256) (hgm : gm < B) (hgr : gr < B) (hgs : gs < B) (hgt : gt < B) (hn : W.cell? ⟨gm, 0, none⟩ = some (.int .i64 m)) (hr : W.cell? ⟨gr, 0, none⟩ = some (.slice (some ⟨gt, 0, none⟩) (bit m) c)) (hss : W.cell? ⟨gs, 0, none⟩ = some (.int .i64 s)) (hT : ITab W gt (bit m) (fun j => (rk L j : Int))) :
    Calls Try.prog 160 #[.int .i64 t, .pointer (some ⟨gr, 0, none⟩), .pointer (some ⟨gm, 0, none⟩), .pointer (some ⟨gs, 0, none⟩)] u.val (Ret B W (.int .i64 (delR m L s t))) := by
  have hb := bit_le m hm
  have q0 : ∀ v : Later B W, v.val.cell? ⟨gm, 0, none⟩ = some (.int .i64 m) := fun v => by rw [v.cell hgm, hn]
  have q1 : ∀ v : Later B W, v.val.cell? ⟨gr, 0, none⟩ = some (.slice (some ⟨gt, 0, none⟩) (bit m) c) := fun v => by rw [v.cell hgr, hr]
  have q2 : ∀ v : Later B W, v.val.cell? ⟨gs, 0, none⟩ = some (.int .i64 s) := fun v => by rw [v.cell hgs, hss]
  have hsp := spTo_lt s t m
  have c1 : ∀ v : Later B W, v.val.cell? ⟨gt, spTo s t m, none⟩ = some (.int .i64 (rk L (spTo s t m) : Int)) := fun v => (hT.keep_at v.below hgt).cell hsp
  have KS := Lib.hid (fun v : Later B W => c_spread v m s t hm (by omega) ht)
  have HR : Hid (delR m L s t = (rk L (spTo s t m) : Int)) := Lib.hid rfl
  clear hn hr hT hss
  generalize delR m L s t = res at *
  generalize rk L (spTo s t m) = p1 at *
  generalize spTo s t m = z at *
  go_enter Try.func160, Try.ntmps160
  go_wp2
  refine wp_region_later u (by kernel_rfl) (by kernel_rfl) (fun _ => ?_)
  repeat (first | go_big_quiet_step (((go_at_call 161; exact KS.out _))) | (refine wpQuiet_step (fun K hK => ?_); go_simp; refine ⟨_, fun _ => rfl, ?_⟩; refine hK _ ?_; clear hK K))
  refine wpQuiet_nil ?_
  intro u
  go_wp2
  go_ret
  exact Ret.mk u (by rw [HR.out]; rfl)

set_option maxRecDepth 100000 in
set_option maxHeartbeats 4000000 in
theorem c_conTell {B : Nat} {W : World} (u : Later B W) (m : Nat) (hm : m ≤ 8) (L : List Nat) (s t gm gr gs gt c : Nat) (hs : s < bit m) (ht : t < 256) (hgm : gm < B) (hgr : gr < B) (hgs : gs < B) (hgt : gt < B) (hn : W.cell? ⟨gm, 0, none⟩ = some (.int .i64 m)) (hr : W.cell? ⟨gr, 0, none⟩ = some (.slice (some ⟨gt, 0, none⟩) (bit m) c)) (hss : W.cell? ⟨gs, 0, none⟩ = some (.int .i64 s)) (hT : ITab W gt (bit m) (fun j => (rk L j : Int))) :
    Calls Try.prog 162 #[.int .i64 t, .pointer (some ⟨gr, 0, none⟩), .pointer (some ⟨gm, 0, none⟩), .pointer (some ⟨gs, 0, none⟩)] u.val (Ret B W (.int .i64 (conR m L s t))) := by
  have hb := bit_le m hm
  have q0 : ∀ v : Later B W, v.val.cell? ⟨gm, 0, none⟩ = some (.int .i64 m) := fun v => by rw [v.cell hgm, hn]
  have q1 : ∀ v : Later B W, v.val.cell? ⟨gr, 0, none⟩ = some (.slice (some ⟨gt, 0, none⟩) (bit m) c) := fun v => by rw [v.cell hgr, hr]
  have q2 : ∀ v : Later B W, v.val.cell? ⟨gs, 0, none⟩ = some (.int .i64 s) := fun v => by rw [v.cell hgs, hss]
  have hsp := spTo_lt s t m
  have hor : spTo s t m ||| s < bit m := or_lt_bit hsp hs
  have o1 := i64_or (spTo s t m) s (by omega) (by omega)
  have c1 : ∀ v : Later B W, v.val.cell? ⟨gt, spTo s t m ||| s, none⟩ = some (.int .i64 (rk L (spTo s t m ||| s) : Int)) := fun v => (hT.keep_at v.below hgt).cell hor
  have c2 : ∀ v : Later B W, v.val.cell? ⟨gt, s, none⟩ = some (.int .i64 (rk L s : Int)) := fun v => (hT.keep_at v.below hgt).cell hs
  have KS := Lib.hid (fun v : Later B W => c_spread v m s t hm (by omega) ht)
  have HR : Hid (conR m L s t = (rk L (spTo s t m ||| s) : Int) - rk L s) := Lib.hid rfl
  have r1 := rk_le8 L (spTo s t m ||| s)
  have r2 := rk_le8 L s
  have w1 := IntWalk.i64_in ((rk L (spTo s t m ||| s) : Int) - (rk L s : Int)) (by omega)
  clear hn hr hT hss
  generalize conR m L s t = res at *
  generalize rk L (spTo s t m ||| s) = p1 at *
  generalize rk L s = p2 at *
  generalize spTo s t m ||| s = z2 at *
  generalize spTo s t m = z at *
  go_enter Try.func162, Try.ntmps162
  go_wp2
  refine wp_region_later u (by kernel_rfl) (by kernel_rfl) (fun _ => ?_)
  repeat (first | go_big_quiet_step (((go_at_call 161; exact KS.out _))) | (refine wpQuiet_step (fun K hK => ?_); go_simp; refine ⟨_, fun _ => rfl, ?_⟩; refine hK _ ?_; clear hK K))
  refine wpQuiet_nil ?_
  intro u
  go_wp2
  go_ret
  exact Ret.mk u (by rw [HR.out]; rfl)

set_option maxRecDepth 100000 in
set_option maxHeartbeats 4000000 in
theorem c_cutTell {B : Nat} {W : World} (u : Later B W) (m : Nat) (hm : m ≤ 8) (L : List Nat) (k : Int) (t gr gs gt c : Nat) (ht : t < bit m) (hgr : gr < B) (hgs : gs < B) (hgt : gt < B) (hr : W.cell? ⟨gr, 0, none⟩ = some (.slice (some ⟨gt, 0, none⟩) (bit m) c)) (hss : W.cell? ⟨gs, 0, none⟩ = some (.int .i64 k)) (hT : ITab W gt (bit m) (fun j => (rk L j : Int))) :
    Calls Try.prog 163 #[.int .i64 t, .pointer (some ⟨gr, 0, none⟩), .pointer (some ⟨gs, 0, none⟩)] u.val (Ret B W (.int .i64 (cutR L k t))) := by
  have hb := bit_le m hm
  have q1 : ∀ v : Later B W, v.val.cell? ⟨gr, 0, none⟩ = some (.slice (some ⟨gt, 0, none⟩) (bit m) c) := fun v => by rw [v.cell hgr, hr]
  have q2 : ∀ v : Later B W, v.val.cell? ⟨gs, 0, none⟩ = some (.int .i64 k) := fun v => by rw [v.cell hgs, hss]
  have c1 : ∀ v : Later B W, v.val.cell? ⟨gt, t, none⟩ = some (.int .i64 (rk L t : Int)) := fun v => (hT.keep_at v.below hgt).cell ht
  have HR : Hid (cutR L k t = min (rk L t : Int) k) := Lib.hid rfl
  clear hr hT hss
  generalize cutR L k t = res at *
  generalize rk L t = p1 at *
  go_enter Try.func163, Try.ntmps163
  go_wp2
  refine wp_region_later u (by kernel_rfl) (by kernel_rfl) (fun _ => ?_)
  repeat (first | go_big_quiet_step ((fail)) | (refine wpQuiet_step (fun K hK => ?_); go_simp; refine ⟨_, fun _ => rfl, ?_⟩; refine hK _ ?_; clear hK K))
  refine wpQuiet_nil ?_
  intro u
  go_wp2
  all_goals
    go_ret
    exact Ret.mk u (vint (by rw [HR.out]; omega))

end Go.Proofs.Ytjpcelldbhdneaa
