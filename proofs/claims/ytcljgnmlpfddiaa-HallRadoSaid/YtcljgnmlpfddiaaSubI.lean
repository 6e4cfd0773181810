/-
  rotaref.Induced and its closure.
-/
import Derived.Test.YtcljgnmlpfddiaaSubM
import Derived.Test.YtcljgnmlpfddiaaGreed
namespace Go.Proofs.Ytcljgnmlpfddiaa
open Go.RowKit
set_option linter.unusedVariables false

/-- no set within s, from the first on, is greater than the function says -/
def indepTo (f : List Int) (s k : Nat) : Prop := ∀ t, t < k → 1 ≤ t → t ||| s = s → (sz t : Int) ≤ f.getD t 0
instance (f s k) : Decidable (indepTo f s k) := by unfold indepTo; infer_instance
def indep (f : List Int) (s : Nat) : Bool := decide (indepTo f s (s + 1))

set_option maxRecDepth 100000 in
set_option maxHeartbeats 2000000 in
theorem c_inducedTell {B : Nat} {W : World} (u : Later B W) (f : List Int) (hlen : f.length ≤ 256) (cap g : Nat) (ab : Option Addr) (s : Nat) (hs : s < f.length) (h : IntsAt B W ab f) (hg : g < B) (hbox : W.cell? ⟨g, 0, none⟩ = some (.slice ab f.length cap)) :
    Calls Try.prog 118 #[.int .i64 s, .pointer (some ⟨g, 0, none⟩)] u.val (Ret B W (.bool (indep f s))) := by
  have hbox1 : ∀ u : Later B W, u.val.cell? ⟨g, 0, none⟩ = some (.slice ab f.length cap) := fun u => by rw [u.cell hg]; exact hbox
  obtain ⟨b, off, rfl, hbB, hcell⟩ := h.at (k := 0) (by omega)
  have HI := Lib.hid hcell
  clear hcell h hbox
  go_enter Try.func118, Try.ntmps118
  go_wp2
  go_loopw [4] (fun i wr => ∃ (t : Nat) (u : Later B W), 1 ≤ t ∧ t ≤ s + 1 ∧ i = .int .i64 t ∧ wr = u.val ∧ Hid (indepTo f s t)) (fun i _ => s + 1 - (intOf i).toNat)
  case atStart => exact ⟨1, u, by omega, by omega, rfl, rfl, Lib.hid (fun t h1 h2 => by omega)⟩
  case round =>
    obtain ⟨t, u, ht1, ht2, rfl, rfl, hf⟩ := hrel
    by_cases hlt : t ≤ s
    · have c0 : ∀ u : Later B W, u.val.cell? ⟨b, off + t, none⟩ = some (.int .i64 (f.getD t 0)) := fun u => HI.out u t (by omega)
      have HW := Lib.hid (fun u : Later B W => c_within u t s (by omega) (by omega))
      have HS := Lib.hid (fun u : Later B W => c_size u t (by omega))
      have HST : Hid (indepTo f s (s+1) → t ||| s = s → (sz t : Int) ≤ f.getD t 0) := Lib.hid (fun h => h t (by omega) ht1)
      generalize hxx : f.getD t 0 = x at *
      have HX := Lib.hid hxx; clear hxx
      have hx := sz_le t
      by_cases hw : t ||| s = s
      · have HW2 := Lib.hid (fun u => dcall_t (HW.out u) hw); clear HW
        rcases ilt x (sz t : Int) with ⟨g1, d1⟩ | ⟨g1, d1⟩
        · have HN : Hid (indep f s = false) := Lib.hid (dec_false (fun h => by have := HST.out h hw; omega)).symm
          clear hw HST
          go_wp2
          refine wp_region_later u (by kernel_rfl) (by kernel_rfl) (fun _ => ?_)
          repeat (first | go_big_quiet_step ((first | (go_at_call 60; exact HW2.out _) | (go_at_call 66; exact HS.out _))) | (refine wpQuiet_step (fun K hK => ?_); go_simp; refine ⟨_, fun _ => rfl, ?_⟩; refine hK _ ?_; clear hK K))
          refine wpQuiet_nil ?_
          intro u
          go_wp2
          go_ret
          exact Ret.mk u (vbool HN.out.symm)
        · have HN : Hid (indepTo f s (t+1)) := Lib.hid (fun t' h1 h2 h3 => by
            by_cases e : t' = t
            · subst e; rw [HX.out]; exact g1
            · exact hf.out t' (by omega) h2 h3)
          clear hw HST
          go_wp2
          refine wp_region_later u (by kernel_rfl) (by kernel_rfl) (fun _ => ?_)
          repeat (first | go_big_quiet_step ((first | (go_at_call 60; exact HW2.out _) | (go_at_call 66; exact HS.out _))) | (refine wpQuiet_step (fun K hK => ?_); go_simp; refine ⟨_, fun _ => rfl, ?_⟩; refine hK _ ?_; clear hK K))
          refine wpQuiet_nil ?_
          intro u
          go_wp2
          go_roundw
          case rel => exact ⟨t+1, u, by omega, by omega, by go_num, rfl, HN⟩
          case measure => simp [intOf]; omega
      · have HW2 := Lib.hid (fun u => dcall_f (HW.out u) hw); clear HW
        have HN : Hid (indepTo f s (t+1)) := Lib.hid (fun t' h1 h2 h3 => by
            by_cases e : t' = t
            · subst e; exact absurd h3 hw
            · exact hf.out t' (by omega) h2 h3)
        clear hw HST
        go_wp2
        refine wp_region_later u (by kernel_rfl) (by kernel_rfl) (fun _ => ?_)
        repeat (first | go_big_quiet_step (((go_at_call 60; exact HW2.out _))) | (refine wpQuiet_step (fun K hK => ?_); go_simp; refine ⟨_, fun _ => rfl, ?_⟩; refine hK _ ?_; clear hK K))
        refine wpQuiet_nil ?_
        intro u
        go_wp2
        go_roundw
        case rel => exact ⟨t+1, u, by omega, by omega, by go_num, rfl, HN⟩
        case measure => simp [intOf]; omega
    · have hte : Hid (t = s + 1) := Lib.hid (by omega)
      go_wp2
      go_ret
      exact Ret.mk u (vbool (dec_true (by have := hf.out; rwa [hte.out] at this)))

end Go.Proofs.Ytcljgnmlpfddiaa
