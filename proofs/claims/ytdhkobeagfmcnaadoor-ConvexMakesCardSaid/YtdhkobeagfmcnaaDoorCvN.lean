
/-
  Ordered, Tree and Line, whatever they are handed: one list, one error, for the program and the reference.
-/
import Derived.Test.YtdhkobeagfmcnaaDoorCvM
import Derived.Test.YtdhkobeagfmcnaaDoorCvE
import Derived.Test.YtdhkobeagfmcnaaDoorCvH
import Derived.Test.YtdhkobeagfmcnaaDoorCvP
import Derived.Test.YtdhkobeagfmcnaaDoorIsle
namespace Go.Proofs.YtdhkobeagfmcnaaDoor
open Go.RowKit
set_option linter.unusedVariables false

theorem c_convexLine_no {B : Nat} {W : World} (u : Later B W) (n : Int) (h : ¬ (0 ≤ n ∧ n ≤ 8)) :
    Calls Tryd.prog 13 #[.int .i64 n] u.val (Ret B W (.tuple #[.slice none 0 0, .int .i64 1])) := by
  rcases ilt n 0 with ⟨g1, d1⟩ | ⟨g1, d1⟩
  · clear h
    go_enter Tryd.func13, Tryd.ntmps13
    go_wp2
    go_ret2
    exact Ret.mk u rfl
  · have d2 : decide (8 < n) = true := decide_eq_true (by omega)
    clear h
    go_enter Tryd.func13, Tryd.ntmps13
    go_wp2
    go_ret2
    exact Ret.mk u rfl

/-- a program's answer: a list and an error -/
def GivesLE (B : Nat) (W : World) (L : List Int) (e : Int) : Ending → World → Prop := RetP B W (fun v w => ∃ ad cp, v = .tuple #[.slice ad L.length cp, .int .i64 e] ∧ IntsAt w.heap.size w ad L)
theorem GivesLE.no {B : Nat} {W : World} {e : Int} {P : Program} {f : FuncId} {args : Array Value} {w : World} (h : Calls P f args w (Ret B W (.tuple #[.slice none 0 0, .int .i64 e]))) : Calls P f args w (GivesLE B W [] e) := by
  refine h.mono ?_
  rintro _ _ ⟨rfl, v, rfl⟩
  exact RetP.mk v ⟨none, 0, rfl, IntsAt.nil⟩
/-- a reference's answer: a list -/
def GivesL (B : Nat) (W : World) (L : List Int) : Ending → World → Prop := RetP B W (fun v w => ∃ ad cp, v = .slice ad L.length cp ∧ IntsAt w.heap.size w ad L)
theorem GivesL.of {B : Nat} {W : World} {L : List Int} {P : Program} {f : FuncId} {args : Array Value} {w : World} (h : Calls P f args w (RetInts B W L)) : Calls P f args w (GivesL B W L) := by
  refine h.mono ?_
  rintro _ _ ⟨x, rfl, ⟨ad, cp, rfl, h1, _⟩, v, rfl⟩
  exact RetP.mk v ⟨ad, cp, rfl, h1⟩

theorem line_any (n : Int) : ∃ (CL : List Int) (e : Int), e = errno (decide (0 ≤ n ∧ n ≤ 8)) 1 ∧ CL.length ≤ 256 ∧ (e ≠ 0 → CL = []) ∧
    (∀ (B : Nat) (W : World) (v : Later B W), Dbr B W → Calls Tryd.prog 13 #[.int .i64 n] v.val (GivesLE B W CL e)) ∧
    (e = 0 → ∀ (B : Nat) (W : World) (v : Later B W), Calls Tryd.prog 5 #[.int .i64 n] v.val (GivesL B W CL)) := by
  by_cases h : 0 ≤ n ∧ n ≤ 8
  · obtain ⟨m, rfl⟩ := Int.eq_ofNat_of_zero_le h.1
    have hm : m ≤ 8 := by omega
    refine ⟨ints (those m (lineB m)), 0, errno_ok h, ?_, fun c => absurd rfl c, fun B W v hD => c_convexLine v m hm hD, fun _ B W v => GivesL.of ?_⟩
    · rw [ints_len]
      have := thoseTo_len (lineB m) (bit m)
      have hb := bit_le m hm
      exact Nat.le_trans this hb.2
    · have := c_refLine v m hm
      rwa [line_list hm] at this
  · exact ⟨[], 1, errno_bad h, by simp, fun _ => rfl, fun B W v _ => GivesLE.no (c_convexLine_no v n h), fun c => absurd c (by decide)⟩

theorem ord_any {es : List (Int × Int)} (n : Int) (hlen : es.length ≤ 4611686018427387904) : ∃ (AL : List Int) (ok : Bool) (e : Int), AL.length ≤ 256 ∧ (e ≠ 0 → ok = false ∧ AL = []) ∧ (ok = false → AL = []) ∧ e = (if (0 ≤ n ∧ n ≤ 8) ∧ edgesTo n es es.length then 0 else 1) ∧
    (∀ (B : Nat) (W : World) (v : Later B W) (a : Option Addr) (cap : Nat), EdgesAt B W a es → Calls Tryd.prog 11 #[.int .i64 n, .slice a es.length cap] v.val (GivesLE B W AL (if e = 0 then errno ok 3 else e))) ∧
    (e = 0 → ∃ RL : List Int, (ok = true → RL = AL) ∧ ∀ (B : Nat) (W : World) (v : Later B W) (a : Option Addr) (cap : Nat), EdgesAt B W a es → Calls Tryd.prog 6 #[.int .i64 n, .slice a es.length cap] v.val (RetP B W (fun v w => ∃ ad cp, v = .tuple #[.slice ad RL.length cp, .bool ok] ∧ IntsAt w.heap.size w ad RL))) := by
  by_cases h : 0 ≤ n ∧ n ≤ 8
  · obtain ⟨m, rfl⟩ := Int.eq_ofNat_of_zero_le h.1
    have hm : m ≤ 8 := by omega
    by_cases hG : edgesTo (m : Int) es es.length
    · obtain ⟨ce, hC⟩ := ChkIs.ex (m : Int) (ints (those m (ordDown es)))
      have hok : okPairs m es := fun k hk => by
        have := hG k hk
        unfold vA vB
        omega
      have hi := ord_chk hm hok hC
      have hmem : ((bit m - 1 : Nat) : Int) ∈ ints (grown m (ordMay es)) ↔ (ce = 0 ∧ noLoop es) := by
        rw [hi, ← mem_grown]
        unfold ints
        rw [List.mem_map]
        constructor
        · rintro ⟨x, hx, e⟩; have : x = bit m - 1 := by omega
          rwa [← this]
        · intro h; exact ⟨_, h, rfl⟩
      have hb := bit_le m hm
      have hl2 := thoseTo_len (ordDown es) (bit m)
      have hl3 : (those m (ordDown es)).length ≤ bit m := hl2
      refine ⟨ordRes m es ce, decide (ce = 0 ∧ noLoop es), 0, ?_, fun c => absurd rfl c, fun c => ?_, by rw [if_pos ⟨h, hG⟩], fun B W v a cap he => ?_, fun _ => ⟨ints (grown m (ordMay es)), fun c => ?_, fun B W v a cap he => ?_⟩⟩
      · unfold ordRes
        split
        · rw [ints_len]; omega
        · simp
      · have c := of_decide_eq_false c
        unfold ordRes; rw [if_neg c]
      · have := c_convexOrdered v m hm es a cap he hlen hG ce hC
        rw [if_pos rfl]
        have e1 : errno (decide (ce = 0 ∧ noLoop es)) 3 = ordErr es ce := by
          unfold errno ordErr
          by_cases c : ce = 0 ∧ noLoop es
          · rw [if_pos c, decide_eq_true c]; rfl
          · rw [if_neg c, decide_eq_false c]; rfl
        rw [e1]
        exact this
      · have c := of_decide_eq_true c
        rw [ord_list (hi.1 c)]
        unfold ordRes; rw [if_pos c]
      · have := c_refOrdered v m hm es a cap hlen he hG
        rwa [decide_eq_decide.2 hmem] at this
    · exact ⟨[], false, 1, by simp, fun _ => ⟨rfl, rfl⟩, fun _ => rfl, by rw [if_neg (fun c => hG c.2)], fun B W v a cap he => GivesLE.no (c_convexOrdered_e v m hm es a cap he hlen hG), fun c => absurd c (by decide)⟩
  · exact ⟨[], false, 1, by simp, fun _ => ⟨rfl, rfl⟩, fun _ => rfl, by rw [if_neg (fun c => h c.1)], fun B W v a cap he => GivesLE.no (c_convexOrdered_n v n h a es.length cap), fun c => absurd c (by decide)⟩

theorem tree_any {es : List (Int × Int)} (n : Int) (hlen : es.length ≤ 4611686018427387904) : ∃ (BL : List Int) (e : Int), BL.length ≤ 256 ∧ (e ≠ 0 → BL = []) ∧ (¬ isGraph n es → e = 1) ∧
    (∀ (B : Nat) (W : World) (v : Later B W) (a : Option Addr) (cap : Nat), EdgesAt B W a es → Calls Tryd.prog 12 #[.agg #[.int .i64 n, .slice a es.length cap]] v.val (GivesLE B W BL e)) ∧
    (e = 0 → ∀ (B : Nat) (W : World) (v : Later B W) (a : Option Addr) (cap : Nat), EdgesAt B W a es → Calls Tryd.prog 10 #[.agg #[.int .i64 n, .slice a es.length cap]] v.val (GivesL B W BL)) ∧
    (isGraph n es → ∃ R : Nat, e = errno (decide (es.length + 1 = n.toNat ∧ sz R = 1)) 3 ∧ (∀ (B : Nat) (W : World) (v : Later B W) (a : Option Addr) (cap : Nat), EdgesAt B W a es → Calls Tryd.prog 8 #[.agg #[.int .i64 n, .slice a es.length cap], .int .i64 ((bit es.length - 1 : Nat) : Int)] v.val (Ret B W (.int .i64 (sz R))))) := by
  by_cases hG : isGraph n es
  · obtain ⟨m, rfl⟩ := Int.eq_ofNat_of_zero_le (show 0 ≤ n by have := hG.1; omega)
    have m1 : 1 ≤ m := by have := hG.1; omega
    have hm : m ≤ 8 := by have := hG.2.1; omega
    have hb := bit_le m hm
    have hbl := bit_le es.length hG.2.2.1
    obtain ⟨R, hR⟩ := Reps.ex m es (bit es.length - 1)
    have hi : isTree m es ↔ (es.length + 1 = (m : Int).toNat ∧ sz R = 1) := by
      unfold isTree
      rw [one_iff (Grf.of hG) m1 hR, Int.toNat_natCast]
    have KI : ∀ (B : Nat) (W : World) (v : Later B W) (a : Option Addr) (cap : Nat), EdgesAt B W a es → Calls Tryd.prog 8 #[.agg #[.int .i64 m, .slice a es.length cap], .int .i64 ((bit es.length - 1 : Nat) : Int)] v.val (Ret B W (.int .i64 (sz R))) := fun B W v a cap he => c_isle v m (bit es.length - 1) R es a cap he hG (by omega) hR
    by_cases ht : isTree m es
    · refine ⟨ints (those m (leftB m es)), 0, ?_, fun c => absurd rfl c, fun c => absurd hG c, fun B W v a cap he => c_convexTree v m es a cap he hG ht, fun _ B W v a cap he => GivesL.of ?_, fun _ => ⟨R, errno_ok (hi.1 ht), KI⟩⟩
      · rw [ints_len]
        have := thoseTo_len (leftB m es) (bit m)
        exact Nat.le_trans this hb.2
      · have := c_refTree v m es a cap he hG
        rwa [tree_list (IsTr.of (Grf.of hG) m1 ht.1 ht.2)] at this
    · exact ⟨[], 3, by simp, fun _ => rfl, fun c => absurd hG c, fun B W v a cap he => GivesLE.no (c_convexTree_bad v m es a cap he hG ht), fun c => absurd c (by decide), fun _ => ⟨R, errno_bad (fun c => ht (hi.2 c)), KI⟩⟩
  · exact ⟨[], 1, by simp, fun _ => rfl, fun _ => rfl, fun B W v a cap he => GivesLE.no (c_convexTree_no v n es a cap he hlen hG), fun c => absurd c (by decide), fun c => absurd c hG⟩

end Go.Proofs.YtdhkobeagfmcnaaDoor
