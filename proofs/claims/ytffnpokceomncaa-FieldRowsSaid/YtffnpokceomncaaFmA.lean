
/-
  kinds.CheckMatrix, rotaref.IsMatrix.
-/
import Derived.Test.YtffnpokceomncaaMx
import Derived.Test.YtffnpokceomncaaBox0
import Derived.Test.YtffnpokceomncaaRowL
import Derived.Deep.CutRange
namespace Go.Proofs.Ytffnpokceomncaa
open Go.RowKit
set_option linter.unusedVariables false

/-- a matrix' head -/
def mxHead (p c : Int) (n : Nat) : Prop := (p = 2 ∨ p = 3 ∨ p = 5 ∨ p = 7) ∧ (0 ≤ c ∧ c ≤ 8) ∧ n ≤ 6
instance (p c : Int) (n : Nat) : Decidable (mxHead p c n) := by unfold mxHead; infer_instance
theorem isMatrix_iff {p c : Int} {rows : Lls} : isMatrix p c rows ↔ mxHead p c rows.length ∧ ∀ i, i < rows.length → rowOk p c (rows.getD i []) :=
  ⟨fun h => ⟨⟨h.1, h.2.1, h.2.2.1⟩, h.2.2.2⟩, fun h => ⟨h.1.1, h.1.2.1, h.1.2.2, h.2⟩⟩
theorem rows_past {rows : Lls} {k : Nat} (h : ¬ k < rows.length) : rows.getD k [] = [] := by
  rw [List.getD_eq_getElem?_getD, List.getElem?_eq_none (by omega)]; rfl

set_option maxRecDepth 100000 in
set_option maxHeartbeats 8000000 in
theorem c_checkMatrix {B : Nat} {W : World} (u : Later B W) (p c : Int) (rows : Lls) (a : Option Addr) (cap : Nat) (h : RowsI B W a rows) (hlen : rows.length ≤ 17592186044416) (hrl : ∀ i, i < rows.length → (rows.getD i []).length ≤ 17592186044416) :
    Calls Try.prog 32 #[.agg #[.int .i64 p, .int .i64 c, .slice a rows.length cap]] u.val (Ret B W (.int .i64 (errno (decide (isMatrix p c rows)) 1))) := by
  have T0 : Hid (RowL (u.val.alloc (.cells #[.int .i64 p, .int .i64 c, .slice a rows.length cap] 24)) u.val.heap.size 24 [.int .i64 p, .int .i64 c, .slice a rows.length cap]) := Lib.hid (RowL.new _ _ _)
  have HR : Hid (RowsI (u.val.alloc (.cells #[.int .i64 p, .int .i64 c, .slice a rows.length cap] 24)).heap.size (u.val.alloc (.cells #[.int .i64 p, .int .i64 c, .slice a rows.length cap] 24)) a rows) := Lib.hid (h.to (u.alloc _))
  have HV : Hid (∀ v : Later (u.val.alloc (.cells #[.int .i64 p, .int .i64 c, .slice a rows.length cap] 24)).heap.size (u.val.alloc (.cells #[.int .i64 p, .int .i64 c, .slice a rows.length cap] 24)), ∃ w : Later B W, w.val = v.val) := Lib.hid (fun v => ⟨(u.alloc _).up v, rfl⟩)
  have HRl := Lib.hid hrl
  obtain ⟨ok, hok⟩ : ∃ ok, decide (isMatrix p c rows) = ok := ⟨_, rfl⟩
  have HO := Lib.hid hok
  rw [hok]
  clear h hrl hok
  go_enter Try.func32, Try.ntmps32
  go_upto_region 1 with fail
  generalize (u.val.alloc (.cells #[.int .i64 p, .int .i64 c, .slice a rows.length cap] 24)) = W1 at *
  generalize u.val.heap.size = g0 at *
  clear u
  have q0 : ∀ w : Later W1.heap.size W1, w.val.cell? ⟨g0, 0, none⟩ = some (.int .i64 p) := fun w => (T0.out.keep w.below).cell rfl
  have q1 : ∀ w : Later W1.heap.size W1, w.val.cell? ⟨g0, 1, none⟩ = some (.int .i64 c) := fun w => (T0.out.keep w.below).cell rfl
  have q2 : ∀ w : Later W1.heap.size W1, w.val.cell? ⟨g0, 2, none⟩ = some (.slice a rows.length cap) := fun w => (T0.out.keep w.below).cell rfl
  obtain ⟨z, hz⟩ : ∃ z : Later W1.heap.size W1, z.val = W1 := ⟨Later.self _, rfl⟩
  rw [← hz]
  clear hz
  have q0z := q0 z
  have q1z := q1 z
  have q2z := q2 z
  go_cut [40] from 7 to 40 (fun x_ w_ => x_ = .bool (!decide (mxHead p c rows.length)) ∧ w_ = z.val)
  case first => as_aux_lemma =>
    clear HR HV HRl q0 q1 q2 T0 HO
    by_cases hP : p = 2 ∨ p = 3 ∨ p = 5 ∨ p = 7
    · rcases ilt c 0 with ⟨g1, d1⟩ | ⟨g1, d1⟩
      · have e := Lib.hid (show decide (mxHead p c rows.length) = false from decide_eq_false (fun x => by have := x.2.1.1; omega))
        rcases hP with rfl | rfl | rfl | rfl
        all_goals
          go_wp2
          go_meet
          case rel => exact ⟨by rw [e.out]; first | rfl | (rw [d6]; rfl), by trivial⟩
      · rcases ilt 8 c with ⟨g2, d2⟩ | ⟨g2, d2⟩
        · have e := Lib.hid (show decide (mxHead p c rows.length) = false from decide_eq_false (fun x => by have := x.2.1.2; omega))
          rcases hP with rfl | rfl | rfl | rfl
          all_goals
            go_wp2
            go_meet
            case rel => exact ⟨by rw [e.out]; first | rfl | (rw [d6]; rfl), by trivial⟩
        · by_cases g3 : rows.length ≤ 6
          · have e := Lib.hid (show decide (mxHead p c rows.length) = true from decide_eq_true ⟨hP, by omega, g3⟩)
            have d6 : decide (6 < (rows.length : Int)) = false := decide_eq_false (by omega)
            rcases hP with rfl | rfl | rfl | rfl
            all_goals
              go_wp2
              go_meet
              case rel => exact ⟨by rw [e.out]; first | rfl | (rw [d6]; rfl), by trivial⟩
          · have e := Lib.hid (show decide (mxHead p c rows.length) = false from decide_eq_false (fun x => by have := x.2.2; omega))
            have d6 : decide (6 < (rows.length : Int)) = true := decide_eq_true (by omega)
            rcases hP with rfl | rfl | rfl | rfl
            all_goals
              go_wp2
              go_meet
              case rel => exact ⟨by rw [e.out]; first | rfl | (rw [d6]; rfl), by trivial⟩
    · have e := Lib.hid (show decide (mxHead p c rows.length) = false from decide_eq_false (fun x => hP x.1))
      have d2 : (p != 2) = true := by rw [bne_iff_ne]; omega
      have d3 : (p != 3) = true := by rw [bne_iff_ne]; omega
      have d5 : (p != 5) = true := by rw [bne_iff_ne]; omega
      have d7 : (p != 7) = true := by rw [bne_iff_ne]; omega
      have n2 : p ≠ 2 := by omega
      have n3 : p ≠ 3 := by omega
      have n5 : p ≠ 5 := by omega
      have n7 : p ≠ 7 := by omega
      clear hP
      go_wp2
      go_meet
      case rel => exact ⟨by rw [e.out]; first | rfl | (rw [d6]; rfl), by trivial⟩
  case rest => as_aux_lemma =>
    obtain ⟨rfl, rfl⟩ := hcut
    have HI : Hid (isMatrix p c rows ↔ mxHead p c rows.length ∧ ∀ i, i < rows.length → rowOk p c (rows.getD i [])) := Lib.hid isMatrix_iff
    by_cases hH : mxHead p c rows.length
    case neg =>
      have hno : ok = false := by rw [← HO.out]; exact decide_eq_false (fun x => hH (HI.out.1 x).1)
      rw [decide_eq_false hH]
      subst hno
      go_wp2
      go_ret
      obtain ⟨w, hw⟩ := HV.out z
      exact Ret.of ⟨w, hw⟩ rfl
    rw [decide_eq_true hH]
    have hn6 : rows.length ≤ 6 := hH.2.2
    have hc8 : 0 ≤ c ∧ c ≤ 8 := hH.2.1
    have hp7 : 2 ≤ p ∧ p ≤ 7 := by have := hH.1; omega
    have HH := Lib.hid hH
    clear hH
    go_wp2
    go_loopw [44] (fun i wr => ∃ (k : Nat) (v : Later W1.heap.size W1), k ≤ rows.length ∧ i = .int .i64 k ∧ wr = v.val ∧ Hid (∀ i, i < k → rowOk p c (rows.getD i []))) (fun i _ => rows.length - (intOf i).toNat)
    case atStart => exact ⟨0, z, by omega, rfl, rfl, Lib.hid (fun i hi => by omega)⟩
    case round =>
      clear q0z q1z q2z z
      obtain ⟨k, v, hk, rfl, rfl, HK⟩ := hrel
      by_cases hlt : k < rows.length
      · obtain ⟨be, ofe, rfl, hbe, hce⟩ := HR.out.at hlt
        obtain ⟨ad', cp', hI, hcell⟩ := hce k hlt
        have hcv := hcell v
        have q0v := q0 v
        have q1v := q1 v
        have q2v := q2 v
        have HBad : Hid (¬ rowOk p c (rows.getD k []) → ok = false) := Lib.hid (fun h => by rw [← HO.out]; exact decide_eq_false (fun x => h ((HI.out.1 x).2 k hlt)))
        have HNx : Hid (rowOk p c (rows.getD k []) → ∀ i, i < k + 1 → rowOk p c (rows.getD i [])) := Lib.hid (fun h i hi => by
          by_cases e : i = k
          · subst e; exact h
          · exact HK.out i (by omega))
        have hrk := HRl.out k hlt
        clear hce
        generalize rows.getD k [] = row at *
        have HIr := Lib.hid hI
        clear hI
        rcases ieq (row.length : Int) c with ⟨g1, d1, _⟩ | ⟨g1, d1, _⟩
        · have f1 : ((row.length : Int) != c) = false := by rw [bne_eq_false_iff_eq]; exact g1
          go_wp2
          clear hcv q0v q1v q2v
          go_loopw [55] (fun i wr => ∃ (k : Nat) (v : Later W1.heap.size W1), k ≤ row.length ∧ i = .int .i64 k ∧ wr = v.val ∧ Hid (∀ i, i < k → 0 ≤ row.getD i 0 ∧ row.getD i 0 < p)) (fun i _ => row.length - (intOf i).toNat)
          case atStart => exact ⟨0, v, by omega, rfl, rfl, Lib.hid (fun i hi => by omega)⟩
          case round =>
            clear v
            obtain ⟨q, v, hq, rfl, rfl, HQ⟩ := hrel
            by_cases hltq : q < row.length
            · obtain ⟨br, ofr, rfl, hbr, hcr⟩ := HIr.out.at hltq
              have cx := hcr v q hltq
              have q0v := q0 v
              have HB2 : Hid (¬ (0 ≤ row.getD q 0 ∧ row.getD q 0 < p) → ok = false) := Lib.hid (fun h => HBad.out (fun x => h (x.2 q hltq)))
              have HN2 : Hid ((0 ≤ row.getD q 0 ∧ row.getD q 0 < p) → ∀ i, i < q + 1 → 0 ≤ row.getD i 0 ∧ row.getD i 0 < p) := Lib.hid (fun h i hi => by
                by_cases e : i = q
                · subst e; exact h
                · exact HQ.out i (by omega))
              generalize row.getD q 0 = x at *
              clear hcr
              rcases ilt x 0 with ⟨g2, d2⟩ | ⟨g2, d2⟩
              · have e := HB2.out (by omega)
                subst e
                go_wp2
                go_ret
                obtain ⟨w, hw⟩ := HV.out v
                exact Ret.of ⟨w, hw⟩ rfl
              · rcases ilt x p with ⟨g3, d3⟩ | ⟨g3, d3⟩
                · have HN := Lib.hid (HN2.out ⟨by omega, g3⟩)
                  have d4 : decide (p ≤ x) = false := decide_eq_false (by omega)
                  clear HB2 HN2
                  go_wp2
                  go_roundw
                  case rel => exact ⟨q+1, v, by omega, by go_num, by trivial, HN⟩
                  case measure => simp [intOf]; omega
                · have e := HB2.out (by omega)
                  have d4 : decide (p ≤ x) = true := decide_eq_true (by omega)
                  subst e
                  go_wp2
                  go_ret
                  obtain ⟨w, hw⟩ := HV.out v
                  exact Ret.of ⟨w, hw⟩ rfl
            · have hqe : q = row.length := by omega
              subst hqe
              have HN := Lib.hid (HNx.out ⟨g1, HQ.out⟩)
              go_wp2
              go_roundw
              case rel => exact ⟨k+1, v, by omega, by go_num, by trivial, HN⟩
              case measure => simp [intOf]; omega
        · have f1 : ((row.length : Int) != c) = true := by rw [bne_iff_ne]; exact g1
          have e := HBad.out (fun x => g1 x.1)
          subst e
          go_wp2
          go_ret
          obtain ⟨w, hw⟩ := HV.out v
          exact Ret.of ⟨w, hw⟩ rfl
      · have hke : k = rows.length := by omega
        subst hke
        have e : ok = true := by rw [← HO.out]; exact decide_eq_true (HI.out.2 ⟨HH.out, HK.out⟩)
        subst e
        go_wp2
        go_ret
        obtain ⟨w, hw⟩ := HV.out v
        exact Ret.of ⟨w, hw⟩ rfl

end Go.Proofs.Ytffnpokceomncaa
