
/-
  kinds.CheckMatrix, rotaref.IsMatrix.
  rotaref.Prime, rotaref.IsMatrix, rotalaw.gone.
  A matrix of the call's own under a struct of its own; field.Determinant.
-/
import Derived.Test.YtffnpokceomncaaPk20
import Derived.Test.YtffnpokceomncaaPk06
import Derived.Test.YtffnpokceomncaaPk11
import Derived.Deep.CutRange
import Derived.Test.YtffnpokceomncaaPk21
import Derived.Deep.RegionHeld3
namespace Go.Proofs.Ytffnpokceomncaa
open Go.RowKit
set_option linter.unusedVariables false

/-- a matrix' head -/
def mxHead (p c : Int) (n : Nat) : Prop := (p = 2 ∨ p = 3 ∨ p = 5 ∨ p = 7) ∧ (0 ≤ c ∧ c ≤ 8) ∧ n ≤ 6
instance (p c : Int) (n : Nat) : Decidable (mxHead p c n) := by unfold mxHead; infer_instance
theorem isMatrix_iff {p c : Int} {rows : Lls} : isMatrix p c rows ↔ mxHead p c rows.length ∧ ∀ i, i < rows.length → rowOk p c (rows.getD i []) :=
  ⟨fun h => ⟨⟨h.1, h.2.1, h.2.2.1⟩, h.2.2.2⟩, fun h => ⟨h.1.1, h.1.2.1, h.1.2.2, h.2⟩⟩
theorem rows_past {rows : Lls} {k : Nat} (h : ¬ k < rows.length) : rows.getD k [] = [] := by
  rw [List.getD_eq_getElem?_getD, List.getElem?_eq_none (by omega)]; rfl

set_option maxRecDepth 100000 in
set_option maxHeartbeats 8000000 in
theorem c_checkMatrix {B : Nat} {W : World} (u : Later B W) (p c : Int) (rows : Lls) (a : Option Addr) (cap : Nat) (h : RowsI B W a rows) (hlen : rows.length ≤ 17592186044416) (hrl : ∀ i, i < rows.length → (rows.getD i []).length ≤ 17592186044416) :
    Calls Try.prog 32 #[.agg #[.int .i64 p, .int .i64 c, .slice a rows.length cap]] u.val (Ret B W (.int .i64 (errno (decide (isMatrix p c rows)) 1))) := by
  have T0 : Hid (RowL (u.val.alloc (.cells #[.int .i64 p, .int .i64 c, .slice a rows.length cap] 24)) u.val.heap.size 24 [.int .i64 p, .int .i64 c, .slice a rows.length cap]) := Lib.hid (RowL.new _ _ _)
  have HR : Hid (RowsI (u.val.alloc (.cells #[.int .i64 p, .int .i64 c, .slice a rows.length cap] 24)).heap.size (u.val.alloc (.cells #[.int .i64 p, .int .i64 c, .slice a rows.length cap] 24)) a rows) := Lib.hid (h.to (u.alloc _))
  have HV : Hid (∀ v : Later (u.val.alloc (.cells #[.int .i64 p, .int .i64 c, .slice a rows.length cap] 24)).heap.size (u.val.alloc (.cells #[.int .i64 p, .int .i64 c, .slice a rows.length cap] 24)), ∃ w : Later B W, w.val = v.val) := Lib.hid (fun v => ⟨(u.alloc _).up v, rfl⟩)
  have HRl := Lib.hid hrl
  obtain ⟨ok, hok⟩ : ∃ ok, decide (isMatrix p c rows) = ok := ⟨_, rfl⟩
  have HO := Lib.hid hok
  rw [hok]
  clear h hrl hok
  go_enter Try.func32, Try.ntmps32
  go_upto_region 1 with fail
  generalize (u.val.alloc (.cells #[.int .i64 p, .int .i64 c, .slice a rows.length cap] 24)) = W1 at *
  generalize u.val.heap.size = g0 at *
  clear u
  have q0 : ∀ w : Later W1.heap.size W1, w.val.cell? ⟨g0, 0, none⟩ = some (.int .i64 p) := fun w => (T0.out.keep w.below).cell rfl
  have q1 : ∀ w : Later W1.heap.size W1, w.val.cell? ⟨g0, 1, none⟩ = some (.int .i64 c) := fun w => (T0.out.keep w.below).cell rfl
  have q2 : ∀ w : Later W1.heap.size W1, w.val.cell? ⟨g0, 2, none⟩ = some (.slice a rows.length cap) := fun w => (T0.out.keep w.below).cell rfl
  obtain ⟨z, hz⟩ : ∃ z : Later W1.heap.size W1, z.val = W1 := ⟨Later.self _, rfl⟩
  rw [← hz]
  clear hz
  have q0z := q0 z
  have q1z := q1 z
  have q2z := q2 z
  go_cut [40] from 7 to 40 (fun x_ w_ => x_ = .bool (!decide (mxHead p c rows.length)) ∧ w_ = z.val)
  case first => as_aux_lemma =>
    clear HR HV HRl q0 q1 q2 T0 HO
    by_cases hP : p = 2 ∨ p = 3 ∨ p = 5 ∨ p = 7
    · rcases ilt c 0 with ⟨g1, d1⟩ | ⟨g1, d1⟩
      · have e := Lib.hid (show decide (mxHead p c rows.length) = false from decide_eq_false (fun x => by have := x.2.1.1; omega))
        rcases hP with rfl | rfl | rfl | rfl
        all_goals
          go_wp2
          go_meet
          case rel => exact ⟨by rw [e.out]; first | rfl | (rw [d6]; rfl), by trivial⟩
      · rcases ilt 8 c with ⟨g2, d2⟩ | ⟨g2, d2⟩
        · have e := Lib.hid (show decide (mxHead p c rows.length) = false from decide_eq_false (fun x => by have := x.2.1.2; omega))
          rcases hP with rfl | rfl | rfl | rfl
          all_goals
            go_wp2
            go_meet
            case rel => exact ⟨by rw [e.out]; first | rfl | (rw [d6]; rfl), by trivial⟩
        · by_cases g3 : rows.length ≤ 6
          · have e := Lib.hid (show decide (mxHead p c rows.length) = true from decide_eq_true ⟨hP, by omega, g3⟩)
            have d6 : decide (6 < (rows.length : Int)) = false := decide_eq_false (by omega)
            rcases hP with rfl | rfl | rfl | rfl
            all_goals
              go_wp2
              go_meet
              case rel => exact ⟨by rw [e.out]; first | rfl | (rw [d6]; rfl), by trivial⟩
          · have e := Lib.hid (show decide (mxHead p c rows.length) = false from decide_eq_false (fun x => by have := x.2.2; omega))
            have d6 : decide (6 < (rows.length : Int)) = true := decide_eq_true (by omega)
            rcases hP with rfl | rfl | rfl | rfl
            all_goals
              go_wp2
              go_meet
              case rel => exact ⟨by rw [e.out]; first | rfl | (rw [d6]; rfl), by trivial⟩
    · have e := Lib.hid (show decide (mxHead p c rows.length) = false from decide_eq_false (fun x => hP x.1))
      have d2 : (p != 2) = true := by rw [bne_iff_ne]; omega
      have d3 : (p != 3) = true := by rw [bne_iff_ne]; omega
      have d5 : (p != 5) = true := by rw [bne_iff_ne]; omega
      have d7 : (p != 7) = true := by rw [bne_iff_ne]; omega
      have n2 : p ≠ 2 := by omega
      have n3 : p ≠ 3 := by omega
      have n5 : p ≠ 5 := by omega
      have n7 : p ≠ 7 := by omega
      clear hP
      go_wp2
      go_meet
      case rel => exact ⟨by rw [e.out]; first | rfl | (rw [d6]; rfl), by trivial⟩
  case rest => as_aux_lemma =>
    obtain ⟨rfl, rfl⟩ := hcut
    have HI : Hid (isMatrix p c rows ↔ mxHead p c rows.length ∧ ∀ i, i < rows.length → rowOk p c (rows.getD i [])) := Lib.hid isMatrix_iff
    by_cases hH : mxHead p c rows.length
    case neg =>
      have hno : ok = false := by rw [← HO.out]; exact decide_eq_false (fun x => hH (HI.out.1 x).1)
      rw [decide_eq_false hH]
      subst hno
      go_wp2
      go_ret
      obtain ⟨w, hw⟩ := HV.out z
      exact Ret.of ⟨w, hw⟩ rfl
    rw [decide_eq_true hH]
    have hn6 : rows.length ≤ 6 := hH.2.2
    have hc8 : 0 ≤ c ∧ c ≤ 8 := hH.2.1
    have hp7 : 2 ≤ p ∧ p ≤ 7 := by have := hH.1; omega
    have HH := Lib.hid hH
    clear hH
    go_wp2
    go_loopw [44] (fun i wr => ∃ (k : Nat) (v : Later W1.heap.size W1), k ≤ rows.length ∧ i = .int .i64 k ∧ wr = v.val ∧ Hid (∀ i, i < k → rowOk p c (rows.getD i []))) (fun i _ => rows.length - (intOf i).toNat)
    case atStart => exact ⟨0, z, by omega, rfl, rfl, Lib.hid (fun i hi => by omega)⟩
    case round =>
      clear q0z q1z q2z z
      obtain ⟨k, v, hk, rfl, rfl, HK⟩ := hrel
      by_cases hlt : k < rows.length
      · obtain ⟨be, ofe, rfl, hbe, hce⟩ := HR.out.at hlt
        obtain ⟨ad', cp', hI, hcell⟩ := hce k hlt
        have hcv := hcell v
        have q0v := q0 v
        have q1v := q1 v
        have q2v := q2 v
        have HBad : Hid (¬ rowOk p c (rows.getD k []) → ok = false) := Lib.hid (fun h => by rw [← HO.out]; exact decide_eq_false (fun x => h ((HI.out.1 x).2 k hlt)))
        have HNx : Hid (rowOk p c (rows.getD k []) → ∀ i, i < k + 1 → rowOk p c (rows.getD i [])) := Lib.hid (fun h i hi => by
          by_cases e : i = k
          · subst e; exact h
          · exact HK.out i (by omega))
        have hrk := HRl.out k hlt
        clear hce
        generalize rows.getD k [] = row at *
        have HIr := Lib.hid hI
        clear hI
        rcases ieq (row.length : Int) c with ⟨g1, d1, _⟩ | ⟨g1, d1, _⟩
        · have f1 : ((row.length : Int) != c) = false := by rw [bne_eq_false_iff_eq]; exact g1
          go_wp2
          clear hcv q0v q1v q2v
          go_loopw [55] (fun i wr => ∃ (k : Nat) (v : Later W1.heap.size W1), k ≤ row.length ∧ i = .int .i64 k ∧ wr = v.val ∧ Hid (∀ i, i < k → 0 ≤ row.getD i 0 ∧ row.getD i 0 < p)) (fun i _ => row.length - (intOf i).toNat)
          case atStart => exact ⟨0, v, by omega, rfl, rfl, Lib.hid (fun i hi => by omega)⟩
          case round =>
            clear v
            obtain ⟨q, v, hq, rfl, rfl, HQ⟩ := hrel
            by_cases hltq : q < row.length
            · obtain ⟨br, ofr, rfl, hbr, hcr⟩ := HIr.out.at hltq
              have cx := hcr v q hltq
              have q0v := q0 v
              have HB2 : Hid (¬ (0 ≤ row.getD q 0 ∧ row.getD q 0 < p) → ok = false) := Lib.hid (fun h => HBad.out (fun x => h (x.2 q hltq)))
              have HN2 : Hid ((0 ≤ row.getD q 0 ∧ row.getD q 0 < p) → ∀ i, i < q + 1 → 0 ≤ row.getD i 0 ∧ row.getD i 0 < p) := Lib.hid (fun h i hi => by
                by_cases e : i = q
                · subst e; exact h
                · exact HQ.out i (by omega))
              generalize row.getD q 0 = x at *
              clear hcr
              rcases ilt x 0 with ⟨g2, d2⟩ | ⟨g2, d2⟩
              · have e := HB2.out (by omega)
                subst e
                go_wp2
                go_ret
                obtain ⟨w, hw⟩ := HV.out v
                exact Ret.of ⟨w, hw⟩ rfl
              · rcases ilt x p with ⟨g3, d3⟩ | ⟨g3, d3⟩
                · have HN := Lib.hid (HN2.out ⟨by omega, g3⟩)
                  have d4 : decide (p ≤ x) = false := decide_eq_false (by omega)
                  clear HB2 HN2
                  go_wp2
                  go_roundw
                  case rel => exact ⟨q+1, v, by omega, by go_num, by trivial, HN⟩
                  case measure => simp [intOf]; omega
                · have e := HB2.out (by omega)
                  have d4 : decide (p ≤ x) = true := decide_eq_true (by omega)
                  subst e
                  go_wp2
                  go_ret
                  obtain ⟨w, hw⟩ := HV.out v
                  exact Ret.of ⟨w, hw⟩ rfl
            · have hqe : q = row.length := by omega
              subst hqe
              have HN := Lib.hid (HNx.out ⟨g1, HQ.out⟩)
              go_wp2
              go_roundw
              case rel => exact ⟨k+1, v, by omega, by go_num, by trivial, HN⟩
              case measure => simp [intOf]; omega
        · have f1 : ((row.length : Int) != c) = true := by rw [bne_iff_ne]; exact g1
          have e := HBad.out (fun x => g1 x.1)
          subst e
          go_wp2
          go_ret
          obtain ⟨w, hw⟩ := HV.out v
          exact Ret.of ⟨w, hw⟩ rfl
      · have hke : k = rows.length := by omega
        subst hke
        have e : ok = true := by rw [← HO.out]; exact decide_eq_true (HI.out.2 ⟨HH.out, HK.out⟩)
        subst e
        go_wp2
        go_ret
        obtain ⟨w, hw⟩ := HV.out v
        exact Ret.of ⟨w, hw⟩ rfl

end Go.Proofs.Ytffnpokceomncaa

namespace Go.Proofs.Ytffnpokceomncaa
open Go.RowKit
set_option linter.unusedVariables false

def primeI (p : Int) : Prop := p = 2 ∨ p = 3 ∨ p = 5 ∨ p = 7
instance (p : Int) : Decidable (primeI p) := by unfold primeI; infer_instance
theorem PrimeP.of {p : Int} (h : primeI p) : ∃ n : Nat, p = n ∧ PrimeP n := by
  rcases h with rfl | rfl | rfl | rfl
  · exact ⟨2, rfl, .inl rfl⟩
  · exact ⟨3, rfl, .inr (.inl rfl)⟩
  · exact ⟨5, rfl, .inr (.inr (.inl rfl))⟩
  · exact ⟨7, rfl, .inr (.inr (.inr rfl))⟩

set_option maxHeartbeats 1000000 in
theorem c_prime {B : Nat} {W : World} (u : Later B W) (p : Int) : Calls Try.prog 36 #[.int .i64 p] u.val (Ret B W (.bool (decide (primeI p)))) := by
  by_cases hP : primeI p
  · rw [decide_eq_true hP]
    rcases hP with rfl | rfl | rfl | rfl
    all_goals
      go_enter Try.func36, Try.ntmps36
      go_wp2
      go_ret
      exact Ret.mk u rfl
  · rw [decide_eq_false hP]
    unfold primeI at hP
    have d2 : (p == 2) = false := by rw [beq_eq_false_iff_ne]; omega
    have d3 : (p == 3) = false := by rw [beq_eq_false_iff_ne]; omega
    have d5 : (p == 5) = false := by rw [beq_eq_false_iff_ne]; omega
    have d7 : (p == 7) = false := by rw [beq_eq_false_iff_ne]; omega
    have n2 : p ≠ 2 := by omega
    have n3 : p ≠ 3 := by omega
    have n5 : p ≠ 5 := by omega
    have n7 : p ≠ 7 := by omega
    clear hP
    go_enter Try.func36, Try.ntmps36
    go_wp2
    go_ret
    exact Ret.of ⟨u, rfl⟩ (vbool (by first | rfl | simp))

set_option maxRecDepth 100000 in
set_option maxHeartbeats 8000000 in
theorem c_isMatrix {B : Nat} {W : World} (u : Later B W) (p c : Int) (rows : Lls) (a : Option Addr) (cap : Nat) (h : RowsI B W a rows) (hlen : rows.length ≤ 17592186044416) (hrl : ∀ i, i < rows.length → (rows.getD i []).length ≤ 17592186044416) :
    Calls Try.prog 10 #[.agg #[.int .i64 p, .int .i64 c, .slice a rows.length cap]] u.val (Ret B W (.bool (decide (isMatrix p c rows)))) := by
  have T0 : Hid (RowL (u.val.alloc (.cells #[.int .i64 p, .int .i64 c, .slice a rows.length cap] 24)) u.val.heap.size 24 [.int .i64 p, .int .i64 c, .slice a rows.length cap]) := Lib.hid (RowL.new _ _ _)
  have HR : Hid (RowsI (u.val.alloc (.cells #[.int .i64 p, .int .i64 c, .slice a rows.length cap] 24)).heap.size (u.val.alloc (.cells #[.int .i64 p, .int .i64 c, .slice a rows.length cap] 24)) a rows) := Lib.hid (h.to (u.alloc _))
  have HV : Hid (∀ v : Later (u.val.alloc (.cells #[.int .i64 p, .int .i64 c, .slice a rows.length cap] 24)).heap.size (u.val.alloc (.cells #[.int .i64 p, .int .i64 c, .slice a rows.length cap] 24)), ∃ w : Later B W, w.val = v.val) := Lib.hid (fun v => ⟨(u.alloc _).up v, rfl⟩)
  have HRl := Lib.hid hrl
  obtain ⟨ok, hok⟩ : ∃ ok, decide (isMatrix p c rows) = ok := ⟨_, rfl⟩
  have HO := Lib.hid hok
  rw [hok]
  clear h hrl hok
  go_enter Try.func10, Try.ntmps10
  go_upto_region 1 with fail
  generalize (u.val.alloc (.cells #[.int .i64 p, .int .i64 c, .slice a rows.length cap] 24)) = W1 at *
  generalize u.val.heap.size = g0 at *
  clear u
  have q0 : ∀ w : Later W1.heap.size W1, w.val.cell? ⟨g0, 0, none⟩ = some (.int .i64 p) := fun w => (T0.out.keep w.below).cell rfl
  have q1 : ∀ w : Later W1.heap.size W1, w.val.cell? ⟨g0, 1, none⟩ = some (.int .i64 c) := fun w => (T0.out.keep w.below).cell rfl
  have q2 : ∀ w : Later W1.heap.size W1, w.val.cell? ⟨g0, 2, none⟩ = some (.slice a rows.length cap) := fun w => (T0.out.keep w.below).cell rfl
  obtain ⟨z, hz⟩ : ∃ z : Later W1.heap.size W1, z.val = W1 := ⟨Later.self _, rfl⟩
  rw [← hz]
  clear hz
  have q0z := q0 z
  have q1z := q1 z
  have q2z := q2 z
  have KP := Lib.hid (c_prime z p)
  have HI : Hid (isMatrix p c rows ↔ mxHead p c rows.length ∧ ∀ i, i < rows.length → rowOk p c (rows.getD i [])) := Lib.hid isMatrix_iff
  go_cut [3] from 6 to 24 (fun x_ w_ => x_ = .bool (decide (mxHead p c rows.length)) ∧ ∃ v : Later W1.heap.size W1, w_ = v.val)
  case first => as_aux_lemma =>
    clear HR HV HRl T0 HO HI
    by_cases hP : primeI p
    · rw [decide_eq_true hP] at KP
      rcases ilt c 0 with ⟨g1, d1⟩ | ⟨g1, d1⟩
      · have e := Lib.hid (show decide (mxHead p c rows.length) = false from decide_eq_false (fun x => by have := x.2.1.1; omega))
        have d0 : decide (0 ≤ c) = false := decide_eq_false (by omega)
        have g0' : ¬ 0 ≤ c := by omega
        clear hP
        go_wp2_with (first | (go_at_call 36; (with_reducible refine (KP.out).mono ?_); rintro e _ ⟨rfl, v1, rfl⟩) | fail)
        go_meet
        case rel => exact ⟨by rw [e.out], v1, rfl⟩
      · have d0 : decide (0 ≤ c) = true := decide_eq_true (by omega)
        have g0' : 0 ≤ c := by omega
        rcases ile c 8 with ⟨g2, d2⟩ | ⟨g2, d2⟩
        · have ed : ∃ b, decide ((rows.length : Int) ≤ 6) = b ∧ decide (mxHead p c rows.length) = b := by
            by_cases g3 : rows.length ≤ 6
            · exact ⟨true, decide_eq_true (by omega), decide_eq_true ⟨hP, by omega, g3⟩⟩
            · exact ⟨false, decide_eq_false (by omega), decide_eq_false (fun x => g3 x.2.2)⟩
          obtain ⟨b, eb1, eb2⟩ := ed
          have e := Lib.hid eb2
          have e6 := Lib.hid eb1
          clear hP eb1 eb2
          go_upto_region 1 with fail
          have q0w := q0
          have q1w := q1
          have q2w := q2
          go_wp2_with (first | (go_at_call 36; (with_reducible refine (KP.out).mono ?_); rintro e _ ⟨rfl, v1, rfl⟩; have q1a := q1w v1; have q2a := q2w v1) | fail)
          go_meet
          case rel => exact ⟨by rw [e.out]; first | rfl | rw [e6.out], v1, rfl⟩
        · have e := Lib.hid (show decide (mxHead p c rows.length) = false from decide_eq_false (fun x => by have := x.2.1.2; omega))
          clear hP
          go_wp2_with (first | (go_at_call 36; (with_reducible refine (KP.out).mono ?_); rintro e _ ⟨rfl, v1, rfl⟩) | fail)
          go_meet
          case rel => exact ⟨by rw [e.out], v1, rfl⟩
    · rw [decide_eq_false hP] at KP
      have e := Lib.hid (show decide (mxHead p c rows.length) = false from decide_eq_false (fun x => hP x.1))
      clear hP
      go_wp2_with (first | (go_at_call 36; (with_reducible refine (KP.out).mono ?_); rintro e _ ⟨rfl, v1, rfl⟩) | fail)
      go_meet
      case rel => exact ⟨by rw [e.out], v1, rfl⟩
  case rest => as_aux_lemma =>
    obtain ⟨rfl, v0, rfl⟩ := hcut
    clear q0z q1z q2z KP z
    have HH : Hid (decide (mxHead p c rows.length) = true → mxHead p c rows.length) := Lib.hid (fun h => of_decide_eq_true h)
    have HF : Hid (decide (mxHead p c rows.length) = false → ok = false) := Lib.hid (fun h => by rw [← HO.out]; exact decide_eq_false (fun x => of_decide_eq_false h (HI.out.1 x).1))
    generalize decide (mxHead p c rows.length) = hd at *
    go_wp2
    go_loopw [3, 4] (fun x i wr => ∃ (b : Bool) (k : Nat) (v : Later W1.heap.size W1), k ≤ rows.length ∧ x = .bool b ∧ i = .int .i64 k ∧ wr = v.val ∧ Hid (b = true → mxHead p c rows.length ∧ ∀ i, i < k → rowOk p c (rows.getD i [])) ∧ Hid (b = false → ok = false)) (fun _ i _ => rows.length - (intOf i).toNat)
    case atStart => exact ⟨hd, 0, v0, by omega, rfl, rfl, rfl, Lib.hid (fun h => ⟨HH.out h, fun i hi => by omega⟩), HF⟩
    case round =>
      clear HH HF v0
      obtain ⟨b, k, v, hk, rfl, rfl, rfl, HT, HF⟩ := hrel
      cases b with
      | false =>
        have e := HF.out rfl
        subst e
        go_wp2
        go_ret
        obtain ⟨w, hw⟩ := HV.out v
        exact Ret.of ⟨w, hw⟩ rfl
      | true =>
        have hT := HT.out rfl
        have hH := hT.1
        have hn6 : rows.length ≤ 6 := hH.2.2
        have hc8 : 0 ≤ c ∧ c ≤ 8 := hH.2.1
        have HK := Lib.hid hT.2
        have HHd := Lib.hid hH
        clear hT hH HF HT
        have q2v := q2 v
        by_cases hlt : k < rows.length
        · obtain ⟨be, ofe, rfl, hbe, hce⟩ := HR.out.at hlt
          obtain ⟨ad', cp', hI, hcell⟩ := hce k hlt
          have HBad : Hid (¬ rowOk p c (rows.getD k []) → ok = false) := Lib.hid (fun h => by rw [← HO.out]; exact decide_eq_false (fun x => h ((HI.out.1 x).2 k hlt)))
          have HNx : Hid (rowOk p c (rows.getD k []) → ∀ i, i < k + 1 → rowOk p c (rows.getD i [])) := Lib.hid (fun h i hi => by
            by_cases e : i = k
            · subst e; exact h
            · exact HK.out i (by omega))
          have hrk := HRl.out k hlt
          clear hce
          generalize rows.getD k [] = row at *
          have HIr := Lib.hid hI
          clear hI
          go_wp2
          refine wp_region_later v (by kernel_rfl) (by kernel_rfl) (fun _ => ?_)
          repeat (first | go_big_quiet_step ((fail)) | (refine wpQuiet_step (fun K hK => ?_); go_simp; refine ⟨_, fun _ => rfl, ?_⟩; refine hK _ ?_; clear hK K))
          refine wpQuiet_nil ?_
          intro v
          go_wp2
          go_loopw [3, 5] (fun x i wr => ∃ (b : Bool) (q : Nat) (v : Later W1.heap.size W1), (q : Int) ≤ c ∧ x = .bool b ∧ i = .int .i64 q ∧ wr = v.val ∧ Hid (b = true → (row.length : Int) = c ∧ ∀ i, i < q → 0 ≤ row.getD i 0 ∧ row.getD i 0 < p) ∧ Hid (b = false → ok = false)) (fun _ i _ => c.toNat - (intOf i).toNat)
          case atStart =>
            exact ⟨_, 0, v, by omega, rfl, rfl, rfl, Lib.hid (fun h => ⟨by simpa using h, fun i hi => by omega⟩), Lib.hid (fun h => HBad.out (fun x => by
              have := x.1
              simp at h
              exact h this))⟩
          case round =>
            clear v
            obtain ⟨b, q, v, hq, rfl, rfl, rfl, HT, HF⟩ := hrel
            cases b with
            | false =>
              have e := Lib.hid (HF.out rfl)
              go_wp2
              go_roundw
              case rel => exact ⟨false, k + 1, v, by omega, rfl, by go_num, by trivial, Lib.hid (fun h => by cases h), Lib.hid (fun _ => e.out)⟩
              case measure => simp [intOf]; omega
            | true =>
              have hT := HT.out rfl
              have hl := hT.1
              have HQ := Lib.hid hT.2
              clear hT HF HT
              have q1v := q1 v
              rcases ilt (q : Int) c with ⟨g1, d1⟩ | ⟨g1, d1⟩
              · have hltq : q < row.length := by omega
                obtain ⟨br, ofr, rfl, hbr, hcr⟩ := HIr.out.at hltq
                have cx : ∀ w : Later W1.heap.size W1, w.val.cell? ⟨br, ofr + q, none⟩ = some (.int .i64 (row.getD q 0)) := fun w => hcr w q hltq
                have HB2 : Hid (¬ (0 ≤ row.getD q 0 ∧ row.getD q 0 < p) → ok = false) := Lib.hid (fun h => HBad.out (fun x => h (x.2 q hltq)))
                have HN2 : Hid ((0 ≤ row.getD q 0 ∧ row.getD q 0 < p) → ∀ i, i < q + 1 → 0 ≤ row.getD i 0 ∧ row.getD i 0 < p) := Lib.hid (fun h i hi => by
                  by_cases e : i = q
                  · subst e; exact h
                  · exact HQ.out i (by omega))
                generalize row.getD q 0 = x at *
                have hlr : q < row.length := hltq
                clear hcr
                rcases ile 0 x with ⟨g2, d2⟩ | ⟨g2, d2⟩
                · rcases ilt x p with ⟨g3, d3⟩ | ⟨g3, d3⟩
                  · have HN := Lib.hid (HN2.out ⟨g2, g3⟩)
                    clear HB2 HN2
                    go_wp2
                    refine wp_region_later v (by kernel_rfl) (by kernel_rfl) (fun _ => ?_)
                    repeat (first | go_big_quiet_step ((fail)) | (refine wpQuiet_step (fun K hK => ?_); go_simp; refine ⟨_, fun _ => rfl, ?_⟩; refine hK _ ?_; clear hK K))
                    refine wpQuiet_nil ?_
                    intro v
                    go_wp2
                    go_roundw
                    case rel => exact ⟨true, q + 1, v, by omega, rfl, by go_num, by trivial, Lib.hid (fun _ => ⟨hl, HN.out⟩), Lib.hid (fun h => by cases h)⟩
                    case measure => simp [intOf]; omega
                  · have e := Lib.hid (HB2.out (by omega))
                    clear HB2 HN2
                    go_wp2
                    refine wp_region_later v (by kernel_rfl) (by kernel_rfl) (fun _ => ?_)
                    repeat (first | go_big_quiet_step ((fail)) | (refine wpQuiet_step (fun K hK => ?_); go_simp; refine ⟨_, fun _ => rfl, ?_⟩; refine hK _ ?_; clear hK K))
                    refine wpQuiet_nil ?_
                    intro v
                    go_wp2
                    go_roundw
                    case rel => exact ⟨false, q + 1, v, by omega, rfl, by go_num, by trivial, Lib.hid (fun h => by cases h), Lib.hid (fun _ => e.out)⟩
                    case measure => simp [intOf]; omega
                · have e := Lib.hid (HB2.out (by omega))
                  clear HB2 HN2
                  go_wp2
                  refine wp_region_later v (by kernel_rfl) (by kernel_rfl) (fun _ => ?_)
                  repeat (first | go_big_quiet_step ((fail)) | (refine wpQuiet_step (fun K hK => ?_); go_simp; refine ⟨_, fun _ => rfl, ?_⟩; refine hK _ ?_; clear hK K))
                  refine wpQuiet_nil ?_
                  intro v
                  go_wp2
                  go_roundw
                  case rel => exact ⟨false, q + 1, v, by omega, rfl, by go_num, by trivial, Lib.hid (fun h => by cases h), Lib.hid (fun _ => e.out)⟩
                  case measure => simp [intOf]; omega
              · have HN := Lib.hid (HNx.out ⟨hl, fun i hi => HQ.out i (by omega)⟩)
                go_wp2
                go_roundw
                case rel => exact ⟨true, k + 1, v, by omega, rfl, by go_num, by trivial, Lib.hid (fun _ => ⟨HHd.out, HN.out⟩), Lib.hid (fun h => by cases h)⟩
                case measure => simp [intOf]; omega
        · have hke : k = rows.length := by omega
          subst hke
          have e : ok = true := by rw [← HO.out]; exact decide_eq_true (HI.out.2 ⟨HHd.out, HK.out⟩)
          subst e
          go_wp2
          go_ret
          obtain ⟨w, hw⟩ := HV.out v
          exact Ret.of ⟨w, hw⟩ rfl

set_option maxHeartbeats 1000000 in
theorem c_goneM {B : Nat} {W : World} (u : Later B W) (a : Option Addr) (cap : Nat) : Calls Try.prog 13 #[.agg #[.int .i64 0, .int .i64 0, .slice a 0 cap]] u.val (Ret B W (.bool true)) := by
  have T0 : Hid (RowL (u.val.alloc (.cells #[.int .i64 0, .int .i64 0, .slice a 0 cap] 24)) u.val.heap.size 24 [.int .i64 0, .int .i64 0, .slice a 0 cap]) := Lib.hid (RowL.new _ _ _)
  have q0 : (u.val.alloc (.cells #[.int .i64 0, .int .i64 0, .slice a 0 cap] 24)).cell? ⟨u.val.heap.size, 0, none⟩ = some (.int .i64 0) := T0.out.cell rfl
  have q1 : (u.val.alloc (.cells #[.int .i64 0, .int .i64 0, .slice a 0 cap] 24)).cell? ⟨u.val.heap.size, 1, none⟩ = some (.int .i64 0) := T0.out.cell rfl
  have q2 : (u.val.alloc (.cells #[.int .i64 0, .int .i64 0, .slice a 0 cap] 24)).cell? ⟨u.val.heap.size, 2, none⟩ = some (.slice a 0 cap) := T0.out.cell rfl
  go_enter Try.func13, Try.ntmps13
  go_wp2
  go_ret
  exact Ret.mk (u.alloc _) rfl

end Go.Proofs.Ytffnpokceomncaa

namespace Go.Proofs.Ytffnpokceomncaa
open Go.RowKit
set_option linter.unusedVariables false

/-- the struct in block go, the rows' slices in block g, the rows below go -/
structure DetB (b go g gc N C : Nat) (p c : Int) (w : World) (hd : Nat → Option Addr) (r cp : Nat → Nat) (M : Nat → Nat → Int) : Prop where
  mx : Mtx b w (some ⟨g, 0, none⟩) gc N C hd r cp M
  box : RowL w go 24 [.int .i64 p, .int .i64 c, .slice (some ⟨g, 0, none⟩) N gc]
  pos : 0 < C
  glt : b ≤ g ∧ g < go
  rlt : ∀ i, i < N → r i < go
namespace DetB
variable {b go g gc N C : Nat} {p c : Int} {w : World} {hd : Nat → Option Addr} {r cp : Nat → Nat} {M : Nat → Nat → Int}
theorem keep {w' : World} (h : DetB b go g gc N C p c w hd r cp M) (hb : Below w.heap.size w w') : DetB b go g gc N C p c w' hd r cp M := ⟨h.mx.keep hb, h.box.keep hb, h.pos, h.glt, h.rlt⟩
theorem congr {M' : Nat → Nat → Int} (h : DetB b go g gc N C p c w hd r cp M) (e : ∀ i j, i < N → j < C → M i j = M' i j) : DetB b go g gc N C p c w hd r cp M' := ⟨h.mx.congr e, h.box, h.pos, h.glt, h.rlt⟩
theorem c0 (h : DetB b go g gc N C p c w hd r cp M) : w.cell? ⟨go, 0, none⟩ = some (.int .i64 p) := h.box.cell rfl
theorem c1 (h : DetB b go g gc N C p c w hd r cp M) : w.cell? ⟨go, 1, none⟩ = some (.int .i64 c) := h.box.cell rfl
theorem c2 (h : DetB b go g gc N C p c w hd r cp M) : w.cell? ⟨go, 2, none⟩ = some (.slice (some ⟨g, 0, none⟩) N gc) := h.box.cell rfl
theorem t (h : DetB b go g gc N C p c w hd r cp M) {i : Nat} (hi : i < N) : w.cell? ⟨g, i, none⟩ = some (.slice (some ⟨r i, 0, none⟩) C (cp i)) := by rw [h.mx.tcell hi, h.mx.hdr h.pos i hi]
theorem e (h : DetB b go g gc N C p c w hd r cp M) {i j : Nat} (hi : i < N) (hj : j < C) : w.cell? ⟨r i, j, none⟩ = some (.int .i64 (M i j)) := h.mx.cell hi hj
theorem fz (h : DetB b go g gc N C p c w hd r cp M) {i : Nat} (hi : i < N) (j : Nat) : w.frozen? ⟨r i, j, none⟩ = false := h.mx.fz h.pos hi j
theorem rb (h : DetB b go g gc N C p c w hd r cp M) {i : Nat} (hi : i < N) : b ≤ r i := (h.mx.rlt h.pos hi).1
theorem set (h : DetB b go g gc N C p c w hd r cp M) {a : Nat} (ha : a < N) (q : Nat) (x : Int) : DetB b go g gc N C p c (w.setCell ⟨r a, q, none⟩ (.int .i64 x)) hd r cp (setM M a q x) :=
  ⟨h.mx.set h.pos ha q x, (Below.heap_setCell _ _ _ _ (by have := h.rlt a ha; show go ≠ r a; omega)).trans h.box, h.pos, h.glt, h.rlt⟩
theorem swap (h : DetB b go g gc N C p c w hd r cp M) {i k : Nat} (hi : i < N) (hk : k < N) : DetB b go g gc N C p c ((w.setCell ⟨g, i, none⟩ (.slice (some ⟨r k, 0, none⟩) C (cp k))).setCell ⟨g, k, none⟩ (.slice (some ⟨r i, 0, none⟩) C (cp i))) (fun x => hd (swp i k x)) (fun x => r (swp i k x)) (fun x => cp (swp i k x)) (fun x => M (swp i k x)) := by
  have h1 := h.mx.swap hi hk
  rw [h.mx.hdr h.pos i hi, h.mx.hdr h.pos k hk] at h1
  have hne : go ≠ g := by have := h.glt; omega
  exact ⟨h1, (Below.heap_setCell _ _ _ _ hne).trans ((Below.heap_setCell _ _ _ _ hne).trans h.box), h.pos, h.glt, fun x hx => h.rlt _ (swp_lt hi hk hx)⟩
end DetB

theorem mul_small {a b : Int} (ha : 0 ≤ a ∧ a < 8) (hb : 0 ≤ b ∧ b < 8) : 0 ≤ a * b ∧ a * b ≤ 49 := by
  obtain ⟨x, rfl⟩ := Int.eq_ofNat_of_zero_le ha.1
  obtain ⟨y, rfl⟩ := Int.eq_ofNat_of_zero_le hb.1
  have := Nat.mul_le_mul (show x ≤ 7 by omega) (show y ≤ 7 by omega)
  have e : (x : Int) * y = ((x * y : Nat) : Int) := by simp
  omega
/-- behind the change of two rows -/
def DetCut (b go g gc n : Nat) (p : Nat) (X : World) (M0 : Nat → Nat → Int) (k : Nat) (x : Value) (w : World) : Prop :=
  ∃ (out : Int) (M : Nat → Nat → Int) (hd : Nat → Option Addr) (r cp : Nat → Nat) (v : Later b X), x = .int .i64 out ∧ w = v.val ∧ DetB b go g gc n n p n v.val hd r cp M ∧ DtS p n M0 M k out ∧ M k k ≠ 0

set_option maxRecDepth 100000 in
set_option maxHeartbeats 16000000 in
theorem c_fieldDet {B : Nat} {W : World} (u : Later B W) (p : Nat) (rows : Lls) (a : Option Addr) (cap : Nat) (h : RowsI B W a rows) (hp : PrimeP p) (hm : isMatrix (p : Int) (rows.length : Int) rows) :
    Calls Try.prog 6 #[.agg #[.int .i64 p, .int .i64 rows.length, .slice a rows.length cap]] u.val (Ret B W (.tuple #[.int .i64 ((dt (ent rows) rows.length rows.length 0 0) % (p : Int)), .int .i64 0])) := by
  have hB := u.size
  have hp7 := hp.le
  have hn6 : rows.length ≤ 6 := hm.2.2.1
  have T0 : Hid (RowL (u.val.alloc (.cells #[.int .i64 p, .int .i64 rows.length, .slice a rows.length cap] 24)) u.val.heap.size 24 [.int .i64 p, .int .i64 rows.length, .slice a rows.length cap]) := Lib.hid (RowL.new _ _ _)
  have HR : Hid (RowsI (u.val.alloc (.cells #[.int .i64 p, .int .i64 rows.length, .slice a rows.length cap] 24)).heap.size (u.val.alloc (.cells #[.int .i64 p, .int .i64 rows.length, .slice a rows.length cap] 24)) a rows) := Lib.hid (h.to (u.alloc _))
  have HZ : Hid ((u.val.alloc (.cells #[.int .i64 p, .int .i64 rows.length, .slice a rows.length cap] 24)).heap.size = u.val.heap.size + 1) := Lib.hid (by simp)
  have HV : Hid (∀ w : World, Below (u.val.heap.size + 1) (u.val.alloc (.cells #[.int .i64 p, .int .i64 rows.length, .slice a rows.length cap] 24)) w → ∃ x : Later B W, x.val = w) := Lib.hid (fun w hb => ⟨⟨w, (u.alloc _).below.trans (hb.mono (by omega)), by have := hb.size; simp at this; omega⟩, rfl⟩)
  have hrl : ∀ i, i < rows.length → (rows.getD i []).length = rows.length := fun i hi => by have := (hm.2.2.2 i hi).1; omega
  have hsm : Small p rows.length rows.length (ent rows) := fun i j hi hj => (hm.2.2.2 i hi).2 j (by rw [hrl i hi]; exact hj)
  have KC := Lib.hid (c_checkMatrix (Later.self (u.val.alloc (.cells #[.int .i64 p, .int .i64 rows.length, .slice a rows.length cap] 24))) (p : Int) (rows.length : Int) rows a cap (h.to (u.alloc _)) (by omega) (fun i hi => by rw [hrl i hi]; omega))
  rw [decide_eq_true hm] at KC
  have KT := Lib.hid (fun v : Later (u.val.alloc (.cells #[.int .i64 p, .int .i64 rows.length, .slice a rows.length cap] 24)).heap.size (u.val.alloc (.cells #[.int .i64 p, .int .i64 rows.length, .slice a rows.length cap] 24)) => c_twin v (p : Int) (rows.length : Int) rows a cap rows.length HR.out hn6 (by omega) hrl)
  obtain ⟨res, hres⟩ : ∃ res, res = dt (ent rows) rows.length rows.length 0 0 % (p : Int) := ⟨_, rfl⟩
  have HRes := Lib.hid hres
  have HSm := Lib.hid hsm
  rw [← hres]
  dsimp only [Later.self] at KC
  clear h hm hrl hres hsm
  generalize hrn : rows.length = n at *
  go_enter Try.func6, Try.ntmps6
  go_upto_region 1 with fail
  generalize (u.val.alloc (.cells #[.int .i64 p, .int .i64 n, .slice a n cap] 24)) = X1 at *
  generalize u.val.heap.size = g0 at *
  have hgB : B ≤ g0 := hB
  clear u hB
  have q0 : ∀ v : Later X1.heap.size X1, v.val.cell? ⟨g0, 0, none⟩ = some (.int .i64 p) := fun v => (T0.out.keep v.below).cell rfl
  have q1 : ∀ v : Later X1.heap.size X1, v.val.cell? ⟨g0, 1, none⟩ = some (.int .i64 n) := fun v => (T0.out.keep v.below).cell rfl
  have q2 : ∀ v : Later X1.heap.size X1, v.val.cell? ⟨g0, 2, none⟩ = some (.slice a n cap) := fun v => (T0.out.keep v.below).cell rfl
  have q0x := q0 (Later.self X1)
  have q1x := q1 (Later.self X1)
  have q2x := q2 (Later.self X1)
  dsimp only [Later.self] at q0x q1x q2x
  go_upto_region 7 with (first | (go_at_call 32; (with_reducible refine (KC.out).mono ?_); rintro e _ ⟨rfl, v1, rfl⟩; have q0a := q0 v1; have q1a := q1 v1; have q2a := q2 v1) | (go_at_call 34; (with_reducible refine (KT.out v1).mono ?_); rintro e _ ⟨_, rfl, ⟨ad, gc, hd, r, cp, rfl, hM⟩, v2, rfl⟩) | fail)
  clear q0x q1x q2x KC KT q0a q1a q2a
  have hv2 : g0 + 1 ≤ v2.val.heap.size := by have := v2.size; have := HZ.out; omega
  have HM0 : Hid (Mtx (g0 + 1) v2.val ad gc n n hd r cp (ent rows)) := Lib.hid (hM.mono (by have := HZ.out; omega))
  have HBx : Hid (RowL (v2.val.alloc (.cells #[.int .i64 p, .int .i64 n, .slice ad n gc] 24)) v2.val.heap.size 24 [.int .i64 p, .int .i64 n, .slice ad n gc]) := Lib.hid (RowL.new _ _ _)
  obtain ⟨y, hy⟩ : ∃ y : Later (g0 + 1) X1, y.val = (v2.val.alloc (.cells #[.int .i64 p, .int .i64 n, .slice ad n gc] 24)) := ⟨⟨(v2.val.alloc (.cells #[.int .i64 p, .int .i64 n, .slice ad n gc] 24)), (v2.below.mono (by have := HZ.out; omega)).trans ((Below.refl _ _).alloc (by omega) _), by simp; omega⟩, rfl⟩
  have HMY : Hid (Mtx (g0 + 1) (v2.val.alloc (.cells #[.int .i64 p, .int .i64 n, .slice ad n gc] 24)) ad gc n n hd r cp (ent rows)) := Lib.hid (HM0.out.keep ((Below.refl _ _).alloc (Nat.le_refl _) _))
  have hgo : g0 + 1 ≤ v2.val.heap.size := hv2
  have HGl : Hid (∀ g, ad = some ⟨g, 0, none⟩ → g0 + 1 ≤ g ∧ g < v2.val.heap.size) := Lib.hid (fun g hg => by
    rcases HM0.out.form with ⟨e, _⟩ | ⟨g', e, h1, h2⟩
    · rw [hg] at e; cases e
    · rw [hg] at e; cases e; exact ⟨h1, h2⟩)
  have HRl : Hid (0 < n → ∀ i, i < n → r i < v2.val.heap.size) := Lib.hid (fun hC i hi => (HM0.out.rlt hC hi).2)
  rw [← hy] at HMY HBx ⊢
  generalize v2.val.heap.size = go at *
  clear hM HM0 hy v2 v1 hv2
  rcases Nat.eq_zero_or_pos n with hn0 | hn0
  · -- no rows
    subst hn0
    have b1 : y.val.cell? ⟨go, 1, none⟩ = some (.int .i64 0) := HBx.out.cell rfl
    have hr1 : res = 1 := by
      rw [HRes.out]
      simp only [dt]
      exact Int.emod_eq_of_lt (by omega) (by omega)
    subst hr1
    clear HRes HSm HMY HR
    go_wp2
    go_loopw [6, 28] (fun o i wr => ∃ v : Later (g0 + 1) X1, i = .int .i64 0 ∧ o = .int .i64 1 ∧ wr = v.val) (fun _ _ _ => 0)
    case atStart => exact ⟨y, rfl, rfl, rfl⟩
    case round =>
      obtain ⟨v, rfl, rfl, rfl⟩ := hrel
      go_wp2
      go_ret2
      obtain ⟨w, hw⟩ := HV.out v.val v.below
      exact Ret.of ⟨w, hw⟩ rfl
  · obtain ⟨g, rfl, hgb⟩ : ∃ g, ad = some ⟨g, 0, none⟩ ∧ g0 + 1 ≤ g := by
      obtain ⟨g, e1, e2, _⟩ := HMY.out.some' hn0
      exact ⟨g, e1, e2⟩
    have HD : Hid (DetB (g0 + 1) go g gc n n p n y.val hd r cp (ent rows)) := Lib.hid ⟨HMY.out, HBx.out, hn0, HGl.out g rfl, HRl.out hn0⟩
    have HDt : Hid (DtS p n (ent rows) (ent rows) 0 1) := Lib.hid (DtS.start hp7.1 HSm.out)
    clear HMY HBx HGl HRl HR q0 q1 q2 T0
    have b1 := HD.out.c1
    go_wp2
    clear b1
    go_loopw [6, 28] (fun o i wr => ∃ (k : Nat) (out : Int) (M : Nat → Nat → Int) (hd : Nat → Option Addr) (r cp : Nat → Nat) (v : Later (g0 + 1) X1), k ≤ n ∧ i = .int .i64 k ∧ o = .int .i64 out ∧ wr = v.val ∧ Hid (DetB (g0 + 1) go g gc n n p n v.val hd r cp M) ∧ Hid (DtS p n (ent rows) M k out)) (fun _ i _ => n - (intOf i).toNat)
    case atStart => exact ⟨0, 1, ent rows, hd, r, cp, y, by omega, rfl, rfl, rfl, HD, HDt⟩
    case round =>
      clear HD HDt y hd r cp
      obtain ⟨k, out, M, hd, r, cp, v, hk, rfl, rfl, rfl, HD, HDt⟩ := hrel
      have hout := HDt.out.out0
      by_cases hkn : k < n
      · have b1 := HD.out.c1
        have b2 := HD.out.c2
        go_wp2
        clear b1 b2
        go_loopw [8] (fun i wr => ∃ (q : Nat) (v' : Later (g0 + 1) X1), k ≤ q ∧ q ≤ n ∧ i = .int .i64 q ∧ wr = v'.val ∧ Hid (v'.val = v.val) ∧ Hid (∀ x, k ≤ x → x < q → M x k = 0)) (fun i _ => n - (intOf i).toNat)
        case atStart => exact ⟨k, v, by omega, by omega, rfl, rfl, Lib.hid rfl, Lib.hid (fun x h1 h2 => by omega)⟩
        case round =>
          obtain ⟨q, v', hkq, hqn, rfl, rfl, HVe, HZe⟩ := hrel
          rw [HVe.out]
          clear HVe v'
          have b1 := HD.out.c1
          have b2 := HD.out.c2
          by_cases hq : q < n
          · have tq := HD.out.t hq
            have eq := HD.out.e hq hkn
            have hx := HDt.out.small q k hq hkn
            rcases ieq (M q k) 0 with ⟨g1, d1, _⟩ | ⟨g1, d1, _⟩
            · have HZ2 : Hid (∀ x, k ≤ x → x < q + 1 → M x k = 0) := Lib.hid (fun x h1 h2 => by
                by_cases e : x = q
                · subst e; exact g1
                · exact HZe.out x h1 (by omega))
              generalize M q k = m at *
              go_wp2
              go_roundw
              case rel => exact ⟨q + 1, v, by omega, by omega, by go_num, by trivial, Lib.hid rfl, HZ2⟩
              case measure => simp [intOf]; omega
            · have HNz := Lib.hid g1
              have f1 : (M q k == 0) = false := by rw [beq_eq_false_iff_ne]; exact g1
              have f4 : ((q : Int) == (n : Int)) = false := by rw [beq_eq_false_iff_ne]; omega
              -- the rows change places, or not
              go_upto_if 55 with fail
              clear f1 f4 b1 b2 tq eq hx
              go_cut [6] from 53 to 80 (fun x_ w_ => DetCut (g0 + 1) go g gc n p X1 (ent rows) k x_ w_)
              case first => as_aux_lemma =>
                rcases ieq (q : Int) (k : Int) with ⟨g2, d2, _⟩ | ⟨g2, d2, _⟩
                · have e : q = k := by omega
                  subst e
                  go_wp2
                  go_meet
                  case rel => exact ⟨out, M, hd, r, cp, v, rfl, rfl, HD.out, HDt.out, HNz.out⟩
                · have f2 : ((q : Int) != (k : Int)) = true := by rw [bne_iff_ne]; exact g2
                  have f3 : (q != k) = true := by rw [bne_iff_ne]; omega
                  have tq := HD.out.t hq
                  have tk := HD.out.t hkn
                  have fq := HD.out.mx.tfz q
                  have fk := HD.out.mx.tfz k
                  have b0 := HD.out.c0
                  have b2 := HD.out.c2
                  have hgg : g ≠ go := by have := HD.out.glt; omega
                  have hqk : q ≠ k := by omega
                  have w1 := IntWalk.i64_in ((p : Int) - out) (by omega)
                  have tm : Int.tmod ((p : Int) - out) (p : Int) = ((p : Int) - out) % (p : Int) := Int.tmod_eq_emod_of_nonneg (by omega)
                  have hp0 : (p : Int) ≠ 0 := by omega
                  have hpn : p ≠ 0 := by omega
                  obtain ⟨v1, hv1⟩ : ∃ v1 : Later (g0 + 1) X1, v1.val = (((v.val.setCell ⟨g, q, none⟩ (.slice (some ⟨r k, 0, none⟩) n (cp k))).setCell ⟨g, k, none⟩ (.slice (some ⟨r q, 0, none⟩) n (cp q)))).drew := ⟨((v.set ⟨g, q, none⟩ hgb _).set ⟨g, k, none⟩ hgb _).drew, rfl⟩
                  have HD2 : Hid (DetB (g0 + 1) go g gc n n p n v1.val (fun x => hd (swp q k x)) (fun x => r (swp q k x)) (fun x => cp (swp q k x)) (fun x => M (swp k q x))) := Lib.hid (by
                    rw [hv1]
                    exact ((HD.out.swap hq hkn).congr (fun i j _ _ => by rw [swp_comm])).keep (Below.refl _ _).drew)
                  have HDt2 : Hid (DtS p n (ent rows) (fun x => M (swp k q x)) k (-out % (p : Int))) := Lib.hid (by
                    have := HDt.out.swap hp7.1 (show k < q by omega) hq
                    rwa [show ((p : Int) - out) % (p : Int) = -out % (p : Int) by simp] at this)
                  have HNz2 : Hid ((fun x => M (swp k q x)) k k ≠ 0) := Lib.hid (by
                    show M (swp k q k) k ≠ 0
                    have : swp k q k = q := by unfold swp; rw [if_pos rfl]
                    rw [this]; exact HNz.out)
                  have c0 : v1.val.cell? ⟨go, 0, none⟩ = some (.int .i64 p) := HD2.out.c0
                  clear HD HDt HNz HRes HSm HZe HZ g2 d2
                  go_upto_region 17 with fail
                  go_big_region
                  all_goals
                    rw [← hv1]
                    clear hv1 tq tk fq fk b0 b2
                    go_wp2
                    go_meet
                    case rel => exact ⟨_, _, _, _, _, v1, rfl, rfl, HD2.out, HDt2.out, HNz2.out⟩
              case rest => as_aux_lemma =>
                clear HD HDt HNz hout HZe
                obtain ⟨out', M', hd, r, cp, v, rfl, rfl, hD, hDt, hNz⟩ := hcut
                have HD := Lib.hid hD
                have HDt := Lib.hid hDt
                have HNz := Lib.hid hNz
                clear hD hDt hNz
                have hsk := HDt.out.small k k hkn hkn
                have hout := HDt.out.out0
                obtain ⟨x, hx⟩ := Int.eq_ofNat_of_zero_le hsk.1
                have hx0 : 0 < x ∧ x < p := by have := HNz.out; omega
                obtain ⟨b, hbp, hb1, hKI⟩ := c_fieldInverse x p hp hx0.1 hx0.2
                have HB1 : Hid ((M' k k * (b : Int)) % (p : Int) = 1 % (p : Int)) := Lib.hid (by rw [hx, hb1, Int.emod_eq_of_lt (by omega) (by omega)])
                have KI : Hid (∀ w : Later v.val.heap.size v.val, Calls Try.prog 35 #[.int .i64 x, .int .i64 p] w.val (Ret v.val.heap.size v.val (.int .i64 b))) := Lib.hid (fun w => hKI w)
                have ms := mul_small (a := out') (b := (x : Int)) (by omega) (by omega)
                have w1 := IntWalk.i64_in (out' * (x : Int)) (by omega)
                have hp0 : (p : Int) ≠ 0 := by omega
                have hpn : p ≠ 0 := by omega
                obtain ⟨o2, ho2⟩ : ∃ o2, o2 = (out' * (x : Int)) % (p : Int) := ⟨_, rfl⟩
                have tm : Int.tmod (out' * (x : Int)) (p : Int) = o2 := by rw [ho2]; exact Int.tmod_eq_emod_of_nonneg ms.1
                have HO2 : Hid (o2 = (out' * M' k k) % (p : Int)) := Lib.hid (by rw [hx]; exact ho2)
                have a0 : ∀ w : Later v.val.heap.size v.val, w.val.cell? ⟨go, 0, none⟩ = some (.int .i64 p) := fun w => (HD.out.keep w.below).c0
                have a2 : ∀ w : Later v.val.heap.size v.val, w.val.cell? ⟨go, 2, none⟩ = some (.slice (some ⟨g, 0, none⟩) n gc) := fun w => (HD.out.keep w.below).c2
                have ak : ∀ w : Later v.val.heap.size v.val, w.val.cell? ⟨g, k, none⟩ = some (.slice (some ⟨r k, 0, none⟩) n (cp k)) := fun w => (HD.out.keep w.below).t hkn
                have ae : ∀ w : Later v.val.heap.size v.val, w.val.cell? ⟨r k, k, none⟩ = some (.int .i64 (x : Int)) := fun w => by rw [← hx]; exact (HD.out.keep w.below).e hkn hkn
                obtain ⟨z, hz⟩ : ∃ z : Later v.val.heap.size v.val, z.val = v.val := ⟨Later.self _, rfl⟩
                rw [← hz]
                clear hz hb1 hKI ho2 hsk hx
                go_wp2
                refine wp_region_later z (by kernel_rfl) (by kernel_rfl) (fun _ => ?_)
                repeat (first | go_big_quiet_step ((fail)) | (refine wpQuiet_step (fun K hK => ?_); go_simp; refine ⟨_, fun _ => rfl, ?_⟩; refine hK _ ?_; clear hK K))
                refine wpQuiet_nil ?_
                intro z
                go_wp2
                refine wp_region_later z (by kernel_rfl) (by kernel_rfl) (fun _ => ?_)
                repeat (first | go_big_quiet_step (((go_at_call 35; exact KI.out _))) | (refine wpQuiet_step (fun K hK => ?_); go_simp; refine ⟨_, fun _ => rfl, ?_⟩; refine hK _ ?_; clear hK K))
                refine wpQuiet_nil ?_
                intro z
                obtain ⟨v1, hv1⟩ : ∃ v1 : Later (g0 + 1) X1, v1.val = z.val := ⟨v.to z.val (z.below.mono (by have := v.size; omega)), rfl⟩
                have HDz : Hid (DetB (g0 + 1) go g gc n n p n v1.val hd r cp M') := Lib.hid (by rw [hv1]; exact HD.out.keep z.below)
                rw [← hv1]
                clear a0 a2 ak ae KI hv1 z HD ms w1 tm
                have b1 := HDz.out.c1
                go_wp2
                clear b1
                have HE0 : Hid (DtE p n M' M' k (k + 1)) := Lib.hid (DtE.start HDt.out.small)
                go_loopw [10] (fun i wr => ∃ (i' : Nat) (M1 : Nat → Nat → Int) (v : Later (g0 + 1) X1), k + 1 ≤ i' ∧ i' ≤ n ∧ i = .int .i64 i' ∧ wr = v.val ∧ Hid (DetB (g0 + 1) go g gc n n p n v.val hd r cp M1) ∧ Hid (DtE p n M' M1 k i')) (fun i _ => n - (intOf i).toNat)
                case atStart => exact ⟨k + 1, M', v1, by omega, by omega, by go_num, rfl, HDz, HE0⟩
                case round =>
                  clear HDz HE0 v1
                  obtain ⟨i, M1, v, hi1, hi2, rfl, rfl, HD, HE⟩ := hrel
                  have b1 := HD.out.c1
                  by_cases hin : i < n
                  · have hsi := HE.out.small i k hin hkn
                    have ms := mul_small (a := M1 i k) (b := (b : Int)) (by omega) (by omega)
                    have w1 := IntWalk.i64_in (M1 i k * (b : Int)) (by omega)
                    obtain ⟨tt, htt⟩ : ∃ tt, tt = (M1 i k * (b : Int)) % (p : Int) := ⟨_, rfl⟩
                    have htp : 0 ≤ tt ∧ tt < p := by rw [htt]; exact mod_small p (by omega) _
                    have tm : Int.tmod (M1 i k * (b : Int)) (p : Int) = tt := by rw [htt]; exact Int.tmod_eq_emod_of_nonneg ms.1
                    have HT := Lib.hid htt
                    have HEs := Lib.hid (HE.out.step hp7.1 (show k < i by omega) hin HB1.out HT.out)
                    have a0 : ∀ w : Later v.val.heap.size v.val, w.val.cell? ⟨go, 0, none⟩ = some (.int .i64 p) := fun w => (HD.out.keep w.below).c0
                    have a2 : ∀ w : Later v.val.heap.size v.val, w.val.cell? ⟨go, 2, none⟩ = some (.slice (some ⟨g, 0, none⟩) n gc) := fun w => (HD.out.keep w.below).c2
                    have ak : ∀ w : Later v.val.heap.size v.val, w.val.cell? ⟨g, i, none⟩ = some (.slice (some ⟨r i, 0, none⟩) n (cp i)) := fun w => (HD.out.keep w.below).t hin
                    have ae : ∀ w : Later v.val.heap.size v.val, w.val.cell? ⟨r i, k, none⟩ = some (.int .i64 (M1 i k)) := fun w => (HD.out.keep w.below).e hin hkn
                    obtain ⟨z, hz⟩ : ∃ z : Later v.val.heap.size v.val, z.val = v.val := ⟨Later.self _, rfl⟩
                    rw [← hz] at b1 ⊢
                    clear hz htt HT
                    generalize M1 i k = mik at *
                    go_wp2
                    clear b1
                    refine wp_region_later z (by kernel_rfl) (by kernel_rfl) (fun _ => ?_)
                    repeat (first | go_big_quiet_step ((fail)) | (refine wpQuiet_step (fun K hK => ?_); go_simp; refine ⟨_, fun _ => rfl, ?_⟩; refine hK _ ?_; clear hK K))
                    refine wpQuiet_nil ?_
                    intro z
                    obtain ⟨v1, hv1⟩ : ∃ v1 : Later (g0 + 1) X1, v1.val = z.val := ⟨v.to z.val (z.below.mono (by have := v.size; omega)), rfl⟩
                    have HDz : Hid (DetB (g0 + 1) go g gc n n p n v1.val hd r cp (addT p M1 i k ((p : Int) - tt) k k)) := Lib.hid (by rw [hv1, addT_start]; exact HD.out.keep z.below)
                    rw [← hv1]
                    clear a0 a2 ak ae hv1 HD ms w1 tm hsi
                    go_wp2
                    go_loopw [12] (fun j wr => ∃ (j' : Nat) (v : Later (g0 + 1) X1), k ≤ j' ∧ j' ≤ n ∧ j = .int .i64 j' ∧ wr = v.val ∧ Hid (DetB (g0 + 1) go g gc n n p n v.val hd r cp (addT p M1 i k ((p : Int) - tt) k j'))) (fun j _ => n - (intOf j).toNat)
                    case atStart => exact ⟨k, v1, by omega, by omega, by go_num, rfl, HDz⟩
                    case round =>
                      clear HDz v1
                      obtain ⟨j, v, hj1, hj2, rfl, rfl, HD⟩ := hrel
                      have b1 := HD.out.c1
                      by_cases hjn : j < n
                      · have hsi := HE.out.small i j hin hjn
                        have hsk := HE.out.small k j hkn hjn
                        have ms := mul_small (a := (p : Int) - tt) (b := M1 k j) (by omega) (by omega)
                        have w1 := IntWalk.i64_in ((p : Int) - tt) (by omega)
                        have w2 := IntWalk.i64_in (((p : Int) - tt) * M1 k j) (by omega)
                        have w3 := IntWalk.i64_in (M1 i j + ((p : Int) - tt) * M1 k j) (by omega)
                        obtain ⟨nn, hnn⟩ : ∃ nn, nn = (M1 i j + ((p : Int) - tt) * M1 k j) % (p : Int) := ⟨_, rfl⟩
                        have tm : Int.tmod (M1 i j + ((p : Int) - tt) * M1 k j) (p : Int) = nn := by rw [hnn]; exact Int.tmod_eq_emod_of_nonneg (by omega)
                        have a0 : ∀ w : Later v.val.heap.size v.val, w.val.cell? ⟨go, 0, none⟩ = some (.int .i64 p) := fun w => (HD.out.keep w.below).c0
                        have a2 : ∀ w : Later v.val.heap.size v.val, w.val.cell? ⟨go, 2, none⟩ = some (.slice (some ⟨g, 0, none⟩) n gc) := fun w => (HD.out.keep w.below).c2
                        have ai : ∀ w : Later v.val.heap.size v.val, w.val.cell? ⟨g, i, none⟩ = some (.slice (some ⟨r i, 0, none⟩) n (cp i)) := fun w => (HD.out.keep w.below).t hin
                        have ak : ∀ w : Later v.val.heap.size v.val, w.val.cell? ⟨g, k, none⟩ = some (.slice (some ⟨r k, 0, none⟩) n (cp k)) := fun w => (HD.out.keep w.below).t hkn
                        have ei : ∀ w : Later v.val.heap.size v.val, w.val.cell? ⟨r i, j, none⟩ = some (.int .i64 (M1 i j)) := fun w => by
                          have := (HD.out.keep w.below).e hin hjn
                          rwa [addT_past (by omega)] at this
                        have ek : ∀ w : Later v.val.heap.size v.val, w.val.cell? ⟨r k, j, none⟩ = some (.int .i64 (M1 k j)) := fun w => by
                          have := (HD.out.keep w.below).e hkn hjn
                          rwa [addT_other (by omega)] at this
                        have fi : ∀ w : Later v.val.heap.size v.val, w.val.frozen? ⟨r i, j, none⟩ = false := fun w => (HD.out.keep w.below).fz hin j
                        have HDn : Hid (∀ w : Later v.val.heap.size v.val, DetB (g0 + 1) go g gc n n p n (w.val.setCell ⟨r i, j, none⟩ (.int .i64 nn)) hd r cp (addT p M1 i k ((p : Int) - tt) k (j + 1))) := Lib.hid (fun w => by
                          have := (HD.out.keep w.below).set hin j nn
                          rw [← addT_step _ _ _ _ _ _ _ hj1, ← hnn]
                          exact this)
                        have hri := HD.out.rb hin
                        have HVx : Hid (∀ w : Later v.val.heap.size v.val, ∃ x : Later (g0 + 1) X1, x.val = w.val.setCell ⟨r i, j, none⟩ (.int .i64 nn)) := Lib.hid (fun w => ⟨(v.to w.val (w.below.mono (by have := v.size; omega))).set ⟨r i, j, none⟩ hri _, rfl⟩)
                        obtain ⟨z, hz⟩ : ∃ z : Later v.val.heap.size v.val, z.val = v.val := ⟨Later.self _, rfl⟩
                        rw [← hz] at b1 ⊢
                        clear hz hnn HD
                        generalize M1 i j = mij at *
                        generalize M1 k j = mkj at *
                        go_wp2
                        clear b1
                        refine wp_region_later_tail z 32 (by kernel_rfl) (by kernel_rfl) (fun z2 => ?_)
                        simp only [List.take_succ_cons, List.take_zero, List.drop_succ_cons, List.drop_zero]
                        repeat still_step
                        refine wpStill_nil ?_
                        go_wp2
                        obtain ⟨xx, hxx⟩ := HVx.out z2
                        go_roundw
                        case rel => exact ⟨j + 1, xx, by omega, by omega, by go_num, hxx.symm, by rw [hxx]; exact Lib.hid (HDn.out z2)⟩
                        case measure => simp [intOf]; omega
                      · have hje : j = n := by omega
                        subst hje
                        go_wp2
                        go_roundw
                        case rel => exact ⟨i + 1, _, v, by omega, by omega, by go_num, by trivial, HD, HEs⟩
                        case measure => simp [intOf]; omega
                  · have hie : i = n := by omega
                    subst hie
                    have HN := Lib.hid (HDt.out.next hp7.1 hkn HE.out)
                    rw [← HO2.out] at HN
                    go_wp2
                    go_roundw
                    case rel => exact ⟨k + 1, o2, M1, hd, r, cp, v, by omega, by go_num, by trivial, by trivial, HD, HN⟩
                    case measure => simp [intOf]; omega
          · have hqe : q = n := by omega
            subst hqe
            have hr0 : res = 0 := by
              rw [HRes.out]
              exact Cg.zero_iff.1 (HDt.out.none hkn (fun x h1 h2 => HZe.out x h1 h2))
            subst hr0
            clear HRes HDt HD
            go_wp2
            go_ret2
            obtain ⟨w, hw⟩ := HV.out v.val v.below
            exact Ret.of ⟨w, hw⟩ rfl
      · have hke : k = n := by omega
        subst hke
        have hr1 : res = out := by
          rw [HRes.out]
          have := HDt.out.done
          unfold Cg at this
          rw [this]
          exact Int.emod_eq_of_lt hout.1 hout.2
        subst hr1
        clear HRes HDt HD
        go_wp2
        go_ret2
        obtain ⟨w, hw⟩ := HV.out v.val v.below
        exact Ret.of ⟨w, hw⟩ rfl

end Go.Proofs.Ytffnpokceomncaa
