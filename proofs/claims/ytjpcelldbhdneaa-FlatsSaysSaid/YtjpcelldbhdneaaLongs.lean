
/-
  rotalaw.longs, where it answers true.
-/
import Derived.Test.YtjpcelldbhdneaaFam2
import Derived.Test.YtjpcelldbhdneaaThread
namespace Go.Proofs.Ytjpcelldbhdneaa
open Go.RowKit
set_option linter.unusedVariables false

set_option maxRecDepth 100000 in
set_option maxHeartbeats 4000000 in
theorem c_same64 {B : Nat} {W : World} (u : Later B W) (l : List Int) (a b : Option Addr) (ca cb : Nat) (ha : IntsAt B W a l) (hb : IntsAt B W b l) (hlen : l.length ≤ 4611686018427387904) :
    Calls Try.prog 182 #[.slice a l.length ca, .slice b l.length cb] u.val (Ret B W (.bool true)) := by
  have HA := Lib.hid ha; have HB := Lib.hid hb; clear ha hb
  go_enter Try.func182, Try.ntmps182
  go_wp2
  go_loopw [13] (fun i wr => ∃ (k : Nat) (u : Later B W), k ≤ l.length ∧ i = .int .i64 k ∧ wr = u.val) (fun i _ => l.length - (intOf i).toNat)
  case atStart => exact ⟨0, u, by omega, rfl, rfl⟩
  case round =>
    obtain ⟨k, u, hk, rfl, rfl⟩ := hrel
    by_cases hlt : k < l.length
    · obtain ⟨p, off, rfl, hp, hc⟩ := HA.out.at hlt
      obtain ⟨q, off', rfl, hq, hc'⟩ := HB.out.at hlt
      have c0 : ∀ u : Later B W, u.val.cell? ⟨p, off + k, none⟩ = some (.int .i64 (l.getD k 0)) := fun u => hc u k hlt
      have c1 : ∀ u : Later B W, u.val.cell? ⟨q, off' + k, none⟩ = some (.int .i64 (l.getD k 0)) := fun u => hc' u k hlt
      generalize l.getD k 0 = x at *
      clear hc hc'
      go_wp2
      refine wp_region_later u (by kernel_rfl) (by kernel_rfl) (fun _ => ?_)
      repeat (first | go_big_quiet_step ((fail)) | (refine wpQuiet_step (fun K hK => ?_); go_simp; refine ⟨_, fun _ => rfl, ?_⟩; refine hK _ ?_; clear hK K))
      refine wpQuiet_nil ?_
      intro u
      go_wp2
      go_roundw
      case rel => exact ⟨k+1, u, by omega, by go_num, rfl⟩
      case measure => simp [intOf]; omega
    · go_wp2
      go_ret
      exact Ret.mk u rfl

set_option maxRecDepth 100000 in
set_option maxHeartbeats 4000000 in
theorem c_longs {B : Nat} {W : World} (u : Later B W) (l m : List Int) (a b : Option Addr) (ca cb : Nat) (e f : Int) (ha : IntsAt B W a l) (hb : IntsAt B W b m) (hlen : l.length ≤ 4611686018427387904) (he : e = f) (h : if f = 0 then l = m else l = []) :
    Calls Try.prog 73 #[.slice a l.length ca, .int .i64 e, .slice b m.length cb, .int .i64 f] u.val (Ret B W (.bool true)) := by
  subst he
  rcases ieq e 0 with ⟨g1, d1, d2⟩ | ⟨g1, d1, d2⟩
  · rw [if_pos g1] at h
    subst h g1
    have H := Lib.hid (c_same64 u l a b ca cb ha hb hlen); clear ha hb
    go_enter Try.func73, Try.ntmps73
    go_wp2_with (go_at_call 182; refine H.out.mono ?_; rintro e _ ⟨rfl, u1, rfl⟩)
    go_ret
    exact Ret.mk _ rfl
  · rw [if_neg g1] at h
    subst h
    clear ha hb
    go_enter Try.func73, Try.ntmps73
    go_wp2
    go_ret
    exact Ret.mk u (vbool (by simp))

theorem c_longs_no {B : Nat} {W : World} (v : Later B W) (e : Int) (he : e ≠ 0) (a : Option Addr) (ca : Nat) :
    Calls Try.prog 73 #[.slice a 0 ca, .int .i64 e, .slice none 0 0, .int .i64 e] v.val (Ret B W (.bool true)) :=
  c_longs v [] [] a none ca 0 e e IntsAt.nil IntsAt.nil (Nat.zero_le _) rfl (by rw [if_neg he])
theorem thread_longs {B : Nat} {W : World} (v : Later B W) (xs : List Int) (a b : Option Addr) (ca cb : Nat) {ls : List (Option Addr × List Int)} (hl : Lists v.val ls) (ha : (a, xs) ∈ ls) (hb : (b, xs) ∈ ls) (hlen : xs.length ≤ 4611686018427387904) :
    Calls Try.prog 73 #[.slice a xs.length ca, .int .i64 0, .slice b xs.length cb, .int .i64 0] v.val (Thread0 B W (.bool true) ls) :=
  thread0 v (c_longs (Later.self v.val) xs xs a b ca cb 0 0 (hl _ ha) (hl _ hb) hlen rfl (by rw [if_pos rfl])) hl

end Go.Proofs.Ytjpcelldbhdneaa
