
/-
  rotalaw.MeetSays returns true, whatever it is handed.
-/
import Derived.Test.YtenbeiafdiifgaaPk46
import Derived.Test.YtenbeiafdiifgaaPk47
namespace Go.Proofs.Ytenbeiafdiifgaa
open Go.RowKit
set_option linter.unusedVariables false

theorem law_meetSays {B : Nat} {W : World} (u : Later B W) (n1 n2 sv : Int) (l1 l2 ws : List Int) (a b ax : Option Addr) (cap capb cw : Nat) (h1 : IntsAt B W a l1) (h2 : IntsAt B W b l2) (hw : IntsAt B W ax ws) (hlen1 : l1.length ≤ 4611686018427387904) (hlen2 : l2.length ≤ 4611686018427387904) (hlenw : ws.length ≤ 4611686018427387904) :
    Calls Try.prog 3 #[.agg #[.int .i64 n1, .slice a l1.length cap], .agg #[.int .i64 n2, .slice b l2.length capb], .slice ax ws.length cw, .int .i64 sv] u.val (Ret B W (.bool true)) := by
  obtain ⟨e1, he1⟩ := MatIs.ex n1 l1
  obtain ⟨e2, he2⟩ := MatIs.ex n2 l2
  have no := fun (er : Int) (hc : bothE n1 n2 e1 e2 er) (h0 : er ≠ 0) => law_meet_no u n1 n2 l1 l2 a b cap capb e1 e2 er sv (.slice ax ws.length cw) h1 h2 hlen1 hlen2 he1 he2 hc h0
  by_cases c1 : e1 = 0
  case neg => exact no e1 (.inl ⟨c1, rfl⟩) c1
  by_cases c2 : e2 = 0
  case neg => exact no e2 (.inr (.inl ⟨c1, c2, rfl⟩)) c2
  by_cases c3 : n1 = n2
  case neg => exact no 3 (.inr (.inr (.inl ⟨c1, c2, c3, rfl⟩))) (by decide)
  subst c1 c2 c3
  have hf := he1.ok.1.1
  obtain ⟨n, rfl⟩ := Int.eq_ofNat_of_zero_le hf.1
  obtain ⟨p, hp⟩ := PrcIs.ex n ws
  exact law_meet_yes u n (by have := hf.2.1; omega) l1 l2 ws sv a b ax cap capb cw h1 h2 hw hlen1 hlen2 hlenw he1 he2 p hp
end Go.Proofs.Ytenbeiafdiifgaa
