
/-
  rotaref.Prime, rotaref.IsMatrix, rotalaw.gone.
-/
import Derived.Test.YtffnpokceomncaaFmA
import Derived.Test.YtffnpokceomncaaGePl
namespace Go.Proofs.Ytffnpokceomncaa
open Go.RowKit
set_option linter.unusedVariables false

def primeI (p : Int) : Prop := p = 2 ∨ p = 3 ∨ p = 5 ∨ p = 7
instance (p : Int) : Decidable (primeI p) := by unfold primeI; infer_instance
theorem PrimeP.of {p : Int} (h : primeI p) : ∃ n : Nat, p = n ∧ PrimeP n := by
  rcases h with rfl | rfl | rfl | rfl
  · exact ⟨2, rfl, .inl rfl⟩
  · exact ⟨3, rfl, .inr (.inl rfl)⟩
  · exact ⟨5, rfl, .inr (.inr (.inl rfl))⟩
  · exact ⟨7, rfl, .inr (.inr (.inr rfl))⟩

set_option maxHeartbeats 1000000 in
theorem c_prime {B : Nat} {W : World} (u : Later B W) (p : Int) : Calls Try.prog 36 #[.int .i64 p] u.val (Ret B W (.bool (decide (primeI p)))) := by
  by_cases hP : primeI p
  · rw [decide_eq_true hP]
    rcases hP with rfl | rfl | rfl | rfl
    all_goals
      go_enter Try.func36, Try.ntmps36
      go_wp2
      go_ret
      exact Ret.mk u rfl
  · rw [decide_eq_false hP]
    unfold primeI at hP
    have d2 : (p == 2) = false := by rw [beq_eq_false_iff_ne]; omega
    have d3 : (p == 3) = false := by rw [beq_eq_false_iff_ne]; omega
    have d5 : (p == 5) = false := by rw [beq_eq_false_iff_ne]; omega
    have d7 : (p == 7) = false := by rw [beq_eq_false_iff_ne]; omega
    have n2 : p ≠ 2 := by omega
    have n3 : p ≠ 3 := by omega
    have n5 : p ≠ 5 := by omega
    have n7 : p ≠ 7 := by omega
    clear hP
    go_enter Try.func36, Try.ntmps36
    go_wp2
    go_ret
    exact Ret.of ⟨u, rfl⟩ (vbool (by first | rfl | simp))

set_option maxRecDepth 100000 in
set_option maxHeartbeats 8000000 in
theorem c_isMatrix {B : Nat} {W : World} (u : Later B W) (p c : Int) (rows : Lls) (a : Option Addr) (cap : Nat) (h : RowsI B W a rows) (hlen : rows.length ≤ 17592186044416) (hrl : ∀ i, i < rows.length → (rows.getD i []).length ≤ 17592186044416) :
    Calls Try.prog 10 #[.agg #[.int .i64 p, .int .i64 c, .slice a rows.length cap]] u.val (Ret B W (.bool (decide (isMatrix p c rows)))) := by
  have T0 : Hid (RowL (u.val.alloc (.cells #[.int .i64 p, .int .i64 c, .slice a rows.length cap] 24)) u.val.heap.size 24 [.int .i64 p, .int .i64 c, .slice a rows.length cap]) := Lib.hid (RowL.new _ _ _)
  have HR : Hid (RowsI (u.val.alloc (.cells #[.int .i64 p, .int .i64 c, .slice a rows.length cap] 24)).heap.size (u.val.alloc (.cells #[.int .i64 p, .int .i64 c, .slice a rows.length cap] 24)) a rows) := Lib.hid (h.to (u.alloc _))
  have HV : Hid (∀ v : Later (u.val.alloc (.cells #[.int .i64 p, .int .i64 c, .slice a rows.length cap] 24)).heap.size (u.val.alloc (.cells #[.int .i64 p, .int .i64 c, .slice a rows.length cap] 24)), ∃ w : Later B W, w.val = v.val) := Lib.hid (fun v => ⟨(u.alloc _).up v, rfl⟩)
  have HRl := Lib.hid hrl
  obtain ⟨ok, hok⟩ : ∃ ok, decide (isMatrix p c rows) = ok := ⟨_, rfl⟩
  have HO := Lib.hid hok
  rw [hok]
  clear h hrl hok
  go_enter Try.func10, Try.ntmps10
  go_upto_region 1 with fail
  generalize (u.val.alloc (.cells #[.int .i64 p, .int .i64 c, .slice a rows.length cap] 24)) = W1 at *
  generalize u.val.heap.size = g0 at *
  clear u
  have q0 : ∀ w : Later W1.heap.size W1, w.val.cell? ⟨g0, 0, none⟩ = some (.int .i64 p) := fun w => (T0.out.keep w.below).cell rfl
  have q1 : ∀ w : Later W1.heap.size W1, w.val.cell? ⟨g0, 1, none⟩ = some (.int .i64 c) := fun w => (T0.out.keep w.below).cell rfl
  have q2 : ∀ w : Later W1.heap.size W1, w.val.cell? ⟨g0, 2, none⟩ = some (.slice a rows.length cap) := fun w => (T0.out.keep w.below).cell rfl
  obtain ⟨z, hz⟩ : ∃ z : Later W1.heap.size W1, z.val = W1 := ⟨Later.self _, rfl⟩
  rw [← hz]
  clear hz
  have q0z := q0 z
  have q1z := q1 z
  have q2z := q2 z
  have KP := Lib.hid (c_prime z p)
  have HI : Hid (isMatrix p c rows ↔ mxHead p c rows.length ∧ ∀ i, i < rows.length → rowOk p c (rows.getD i [])) := Lib.hid isMatrix_iff
  go_cut [3] from 6 to 24 (fun x_ w_ => x_ = .bool (decide (mxHead p c rows.length)) ∧ ∃ v : Later W1.heap.size W1, w_ = v.val)
  case first => as_aux_lemma =>
    clear HR HV HRl T0 HO HI
    by_cases hP : primeI p
    · rw [decide_eq_true hP] at KP
      rcases ilt c 0 with ⟨g1, d1⟩ | ⟨g1, d1⟩
      · have e := Lib.hid (show decide (mxHead p c rows.length) = false from decide_eq_false (fun x => by have := x.2.1.1; omega))
        have d0 : decide (0 ≤ c) = false := decide_eq_false (by omega)
        have g0' : ¬ 0 ≤ c := by omega
        clear hP
        go_wp2_with (first | (go_at_call 36; (with_reducible refine (KP.out).mono ?_); rintro e _ ⟨rfl, v1, rfl⟩) | fail)
        go_meet
        case rel => exact ⟨by rw [e.out], v1, rfl⟩
      · have d0 : decide (0 ≤ c) = true := decide_eq_true (by omega)
        have g0' : 0 ≤ c := by omega
        rcases ile c 8 with ⟨g2, d2⟩ | ⟨g2, d2⟩
        · have ed : ∃ b, decide ((rows.length : Int) ≤ 6) = b ∧ decide (mxHead p c rows.length) = b := by
            by_cases g3 : rows.length ≤ 6
            · exact ⟨true, decide_eq_true (by omega), decide_eq_true ⟨hP, by omega, g3⟩⟩
            · exact ⟨false, decide_eq_false (by omega), decide_eq_false (fun x => g3 x.2.2)⟩
          obtain ⟨b, eb1, eb2⟩ := ed
          have e := Lib.hid eb2
          have e6 := Lib.hid eb1
          clear hP eb1 eb2
          go_upto_region 1 with fail
          have q0w := q0
          have q1w := q1
          have q2w := q2
          go_wp2_with (first | (go_at_call 36; (with_reducible refine (KP.out).mono ?_); rintro e _ ⟨rfl, v1, rfl⟩; have q1a := q1w v1; have q2a := q2w v1) | fail)
          go_meet
          case rel => exact ⟨by rw [e.out]; first | rfl | rw [e6.out], v1, rfl⟩
        · have e := Lib.hid (show decide (mxHead p c rows.length) = false from decide_eq_false (fun x => by have := x.2.1.2; omega))
          clear hP
          go_wp2_with (first | (go_at_call 36; (with_reducible refine (KP.out).mono ?_); rintro e _ ⟨rfl, v1, rfl⟩) | fail)
          go_meet
          case rel => exact ⟨by rw [e.out], v1, rfl⟩
    · rw [decide_eq_false hP] at KP
      have e := Lib.hid (show decide (mxHead p c rows.length) = false from decide_eq_false (fun x => hP x.1))
      clear hP
      go_wp2_with (first | (go_at_call 36; (with_reducible refine (KP.out).mono ?_); rintro e _ ⟨rfl, v1, rfl⟩) | fail)
      go_meet
      case rel => exact ⟨by rw [e.out], v1, rfl⟩
  case rest => as_aux_lemma =>
    obtain ⟨rfl, v0, rfl⟩ := hcut
    clear q0z q1z q2z KP z
    have HH : Hid (decide (mxHead p c rows.length) = true → mxHead p c rows.length) := Lib.hid (fun h => of_decide_eq_true h)
    have HF : Hid (decide (mxHead p c rows.length) = false → ok = false) := Lib.hid (fun h => by rw [← HO.out]; exact decide_eq_false (fun x => of_decide_eq_false h (HI.out.1 x).1))
    generalize decide (mxHead p c rows.length) = hd at *
    go_wp2
    go_loopw [3, 4] (fun x i wr => ∃ (b : Bool) (k : Nat) (v : Later W1.heap.size W1), k ≤ rows.length ∧ x = .bool b ∧ i = .int .i64 k ∧ wr = v.val ∧ Hid (b = true → mxHead p c rows.length ∧ ∀ i, i < k → rowOk p c (rows.getD i [])) ∧ Hid (b = false → ok = false)) (fun _ i _ => rows.length - (intOf i).toNat)
    case atStart => exact ⟨hd, 0, v0, by omega, rfl, rfl, rfl, Lib.hid (fun h => ⟨HH.out h, fun i hi => by omega⟩), HF⟩
    case round =>
      clear HH HF v0
      obtain ⟨b, k, v, hk, rfl, rfl, rfl, HT, HF⟩ := hrel
      cases b with
      | false =>
        have e := HF.out rfl
        subst e
        go_wp2
        go_ret
        obtain ⟨w, hw⟩ := HV.out v
        exact Ret.of ⟨w, hw⟩ rfl
      | true =>
        have hT := HT.out rfl
        have hH := hT.1
        have hn6 : rows.length ≤ 6 := hH.2.2
        have hc8 : 0 ≤ c ∧ c ≤ 8 := hH.2.1
        have HK := Lib.hid hT.2
        have HHd := Lib.hid hH
        clear hT hH HF HT
        have q2v := q2 v
        by_cases hlt : k < rows.length
        · obtain ⟨be, ofe, rfl, hbe, hce⟩ := HR.out.at hlt
          obtain ⟨ad', cp', hI, hcell⟩ := hce k hlt
          have HBad : Hid (¬ rowOk p c (rows.getD k []) → ok = false) := Lib.hid (fun h => by rw [← HO.out]; exact decide_eq_false (fun x => h ((HI.out.1 x).2 k hlt)))
          have HNx : Hid (rowOk p c (rows.getD k []) → ∀ i, i < k + 1 → rowOk p c (rows.getD i [])) := Lib.hid (fun h i hi => by
            by_cases e : i = k
            · subst e; exact h
            · exact HK.out i (by omega))
          have hrk := HRl.out k hlt
          clear hce
          generalize rows.getD k [] = row at *
          have HIr := Lib.hid hI
          clear hI
          go_wp2
          refine wp_region_later v (by kernel_rfl) (by kernel_rfl) (fun _ => ?_)
          repeat (first | go_big_quiet_step ((fail)) | (refine wpQuiet_step (fun K hK => ?_); go_simp; refine ⟨_, fun _ => rfl, ?_⟩; refine hK _ ?_; clear hK K))
          refine wpQuiet_nil ?_
          intro v
          go_wp2
          go_loopw [3, 5] (fun x i wr => ∃ (b : Bool) (q : Nat) (v : Later W1.heap.size W1), (q : Int) ≤ c ∧ x = .bool b ∧ i = .int .i64 q ∧ wr = v.val ∧ Hid (b = true → (row.length : Int) = c ∧ ∀ i, i < q → 0 ≤ row.getD i 0 ∧ row.getD i 0 < p) ∧ Hid (b = false → ok = false)) (fun _ i _ => c.toNat - (intOf i).toNat)
          case atStart =>
            exact ⟨_, 0, v, by omega, rfl, rfl, rfl, Lib.hid (fun h => ⟨by simpa using h, fun i hi => by omega⟩), Lib.hid (fun h => HBad.out (fun x => by
              have := x.1
              simp at h
              exact h this))⟩
          case round =>
            clear v
            obtain ⟨b, q, v, hq, rfl, rfl, rfl, HT, HF⟩ := hrel
            cases b with
            | false =>
              have e := Lib.hid (HF.out rfl)
              go_wp2
              go_roundw
              case rel => exact ⟨false, k + 1, v, by omega, rfl, by go_num, by trivial, Lib.hid (fun h => by cases h), Lib.hid (fun _ => e.out)⟩
              case measure => simp [intOf]; omega
            | true =>
              have hT := HT.out rfl
              have hl := hT.1
              have HQ := Lib.hid hT.2
              clear hT HF HT
              have q1v := q1 v
              rcases ilt (q : Int) c with ⟨g1, d1⟩ | ⟨g1, d1⟩
              · have hltq : q < row.length := by omega
                obtain ⟨br, ofr, rfl, hbr, hcr⟩ := HIr.out.at hltq
                have cx : ∀ w : Later W1.heap.size W1, w.val.cell? ⟨br, ofr + q, none⟩ = some (.int .i64 (row.getD q 0)) := fun w => hcr w q hltq
                have HB2 : Hid (¬ (0 ≤ row.getD q 0 ∧ row.getD q 0 < p) → ok = false) := Lib.hid (fun h => HBad.out (fun x => h (x.2 q hltq)))
                have HN2 : Hid ((0 ≤ row.getD q 0 ∧ row.getD q 0 < p) → ∀ i, i < q + 1 → 0 ≤ row.getD i 0 ∧ row.getD i 0 < p) := Lib.hid (fun h i hi => by
                  by_cases e : i = q
                  · subst e; exact h
                  · exact HQ.out i (by omega))
                generalize row.getD q 0 = x at *
                have hlr : q < row.length := hltq
                clear hcr
                rcases ile 0 x with ⟨g2, d2⟩ | ⟨g2, d2⟩
                · rcases ilt x p with ⟨g3, d3⟩ | ⟨g3, d3⟩
                  · have HN := Lib.hid (HN2.out ⟨g2, g3⟩)
                    clear HB2 HN2
                    go_wp2
                    refine wp_region_later v (by kernel_rfl) (by kernel_rfl) (fun _ => ?_)
                    repeat (first | go_big_quiet_step ((fail)) | (refine wpQuiet_step (fun K hK => ?_); go_simp; refine ⟨_, fun _ => rfl, ?_⟩; refine hK _ ?_; clear hK K))
                    refine wpQuiet_nil ?_
                    intro v
                    go_wp2
                    go_roundw
                    case rel => exact ⟨true, q + 1, v, by omega, rfl, by go_num, by trivial, Lib.hid (fun _ => ⟨hl, HN.out⟩), Lib.hid (fun h => by cases h)⟩
                    case measure => simp [intOf]; omega
                  · have e := Lib.hid (HB2.out (by omega))
                    clear HB2 HN2
                    go_wp2
                    refine wp_region_later v (by kernel_rfl) (by kernel_rfl) (fun _ => ?_)
                    repeat (first | go_big_quiet_step ((fail)) | (refine wpQuiet_step (fun K hK => ?_); go_simp; refine ⟨_, fun _ => rfl, ?_⟩; refine hK _ ?_; clear hK K))
                    refine wpQuiet_nil ?_
                    intro v
                    go_wp2
                    go_roundw
                    case rel => exact ⟨false, q + 1, v, by omega, rfl, by go_num, by trivial, Lib.hid (fun h => by cases h), Lib.hid (fun _ => e.out)⟩
                    case measure => simp [intOf]; omega
                · have e := Lib.hid (HB2.out (by omega))
                  clear HB2 HN2
                  go_wp2
                  refine wp_region_later v (by kernel_rfl) (by kernel_rfl) (fun _ => ?_)
                  repeat (first | go_big_quiet_step ((fail)) | (refine wpQuiet_step (fun K hK => ?_); go_simp; refine ⟨_, fun _ => rfl, ?_⟩; refine hK _ ?_; clear hK K))
                  refine wpQuiet_nil ?_
                  intro v
                  go_wp2
                  go_roundw
                  case rel => exact ⟨false, q + 1, v, by omega, rfl, by go_num, by trivial, Lib.hid (fun h => by cases h), Lib.hid (fun _ => e.out)⟩
                  case measure => simp [intOf]; omega
              · have HN := Lib.hid (HNx.out ⟨hl, fun i hi => HQ.out i (by omega)⟩)
                go_wp2
                go_roundw
                case rel => exact ⟨true, k + 1, v, by omega, rfl, by go_num, by trivial, Lib.hid (fun _ => ⟨HHd.out, HN.out⟩), Lib.hid (fun h => by cases h)⟩
                case measure => simp [intOf]; omega
        · have hke : k = rows.length := by omega
          subst hke
          have e : ok = true := by rw [← HO.out]; exact decide_eq_true (HI.out.2 ⟨HHd.out, HK.out⟩)
          subst e
          go_wp2
          go_ret
          obtain ⟨w, hw⟩ := HV.out v
          exact Ret.of ⟨w, hw⟩ rfl

set_option maxHeartbeats 1000000 in
theorem c_goneM {B : Nat} {W : World} (u : Later B W) (a : Option Addr) (cap : Nat) : Calls Try.prog 13 #[.agg #[.int .i64 0, .int .i64 0, .slice a 0 cap]] u.val (Ret B W (.bool true)) := by
  have T0 : Hid (RowL (u.val.alloc (.cells #[.int .i64 0, .int .i64 0, .slice a 0 cap] 24)) u.val.heap.size 24 [.int .i64 0, .int .i64 0, .slice a 0 cap]) := Lib.hid (RowL.new _ _ _)
  have q0 : (u.val.alloc (.cells #[.int .i64 0, .int .i64 0, .slice a 0 cap] 24)).cell? ⟨u.val.heap.size, 0, none⟩ = some (.int .i64 0) := T0.out.cell rfl
  have q1 : (u.val.alloc (.cells #[.int .i64 0, .int .i64 0, .slice a 0 cap] 24)).cell? ⟨u.val.heap.size, 1, none⟩ = some (.int .i64 0) := T0.out.cell rfl
  have q2 : (u.val.alloc (.cells #[.int .i64 0, .int .i64 0, .slice a 0 cap] 24)).cell? ⟨u.val.heap.size, 2, none⟩ = some (.slice a 0 cap) := T0.out.cell rfl
  go_enter Try.func13, Try.ntmps13
  go_wp2
  go_ret
  exact Ret.mk (u.alloc _) rfl

end Go.Proofs.Ytffnpokceomncaa
