
/-
  rotaref.Tree, rotaref.Ordered: the function values that tell what may come.
-/
import Derived.Test.YtdhkobeagfmcnaaDoorGrow
import Derived.Test.YtdhkobeagfmcnaaDoorCvOrd
namespace Go.Proofs.YtdhkobeagfmcnaaDoor
open Go.RowKit
set_option linter.unusedVariables false
set_option linter.unusedSimpArgs false

set_option maxRecDepth 100000 in
set_option maxHeartbeats 20000000 in
theorem c_treeTell {B : Nat} {W : World} (u : Later B W) (n s i gb : Nat) (es : List (Int × Int)) (a : Option Addr) (cap : Nat) (hs : s < 256) (hi : i < 8) (hgb : gb < B) (hbox : Two W gb 24 (.int .i64 n) (.slice a es.length cap)) (he : EdgesAt B W a es) (hG : isGraph (n : Int) es) :
    Calls Tryd.prog 21 #[.int .i64 s, .int .i64 i, .pointer (some ⟨gb, 0, none⟩)] u.val (Ret B W (.bool (treeMay es s i))) := by
  have r0 : ∀ w : Later B W, w.val.cell? ⟨gb, 1, none⟩ = some (.slice a es.length cap) := fun w => (hbox.keep_at w.below hgb).c1
  have HE := Lib.hid he
  have HG := Lib.hid hG
  have h8 : es.length ≤ 8 := hG.2.2.1
  have HD0 : Hid (degT es s i 0 = 0) := Lib.hid rfl
  have HDs : Hid (∀ k, degT es s i (k + 1) = degT es s i k + (if degAt es s i k = true then 1 else 0)) := Lib.hid (fun k => rfl)
  have HDl : Hid (∀ k, degT es s i k ≤ k) := Lib.hid (fun k => by
    induction k with
    | zero => exact Nat.le_refl _
    | succ k ih => unfold degT; split <;> omega)
  have HR : Hid (treeMay es s i = decide (degT es s i es.length ≤ 1)) := Lib.hid rfl
  clear hbox he hG
  generalize treeMay es s i = r at *
  generalize degT es s i = dg at *
  go_enter Tryd.func21, Tryd.ntmps21
  go_wp2
  go_loopw [6, 7] (fun o x wr => ∃ (k : Nat) (v : Later B W), k ≤ es.length ∧ o = .int .i64 (dg k) ∧ x = .int .i64 k ∧ wr = v.val) (fun _ x _ => es.length - (intOf x).toNat)
  case atStart => exact ⟨0, u, by omega, by rw [HD0.out]; rfl, rfl, rfl⟩
  case round =>
    clear u
    obtain ⟨k, v, hk, rfl, rfl, rfl⟩ := hrel
    by_cases hlt : k < es.length
    · obtain ⟨be, offe, rfl, hbe, hce⟩ := HE.out.at (k := k) hlt
      have HX := HG.out.2.2.2 k hlt
      have hn7 := HG.out.2.1
      obtain ⟨x, hx⟩ := Int.eq_ofNat_of_zero_le HX.1
      obtain ⟨y, hy⟩ := Int.eq_ofNat_of_zero_le HX.2.1
      have e1 := (hce v k hlt).1
      have e2 := (hce v k hlt).2
      rw [hx] at e1
      rw [hy] at e2
      have hx7 : x < 7 := by omega
      have hy7 : y < 7 := by omega
      have HDk : Hid (degAt es s i k = ((decide (x = i) && !s.testBit y) || (decide (y = i) && !s.testBit x))) := Lib.hid (by
        unfold degAt vA vB
        rw [hx, hy, Int.toNat_natCast, Int.toNat_natCast])
      have HN := Lib.hid (HDs.out k)
      have hdl := HDl.out k
      have HT2 : Hid (Two (v.val.alloc (.cells #[.int .i64 x, .int .i64 y] 28)) v.val.heap.size 28 (.int .i64 x) (.int .i64 y)) := Lib.hid (Two.new _ _ _ _)
      obtain ⟨Z, hZ⟩ : ∃ Z, Z = v.val.alloc (.cells #[.int .i64 x, .int .i64 y] 28) := ⟨_, rfl⟩
      have HVU : Hid (∀ w : Later Z.heap.size Z, ∃ w' : Later B W, w'.val = w.val) := Lib.hid (by rw [hZ]; exact fun w => ⟨(v.alloc _).up w, rfl⟩)
      have r1 := r0 v
      clear HX hx hy hce
      go_upto_region 6 with fail
      rw [← hZ] at HT2 ⊢
      generalize v.val.heap.size = ge at *
      have c0 : ∀ w : Later Z.heap.size Z, w.val.cell? ⟨ge, 0, none⟩ = some (.int .i64 x) := fun w => (HT2.out.keep w.below).c0
      have c1 : ∀ w : Later Z.heap.size Z, w.val.cell? ⟨ge, 1, none⟩ = some (.int .i64 y) := fun w => (HT2.out.keep w.below).c1
      have KI := Lib.hid (fun (w : Later Z.heap.size Z) (j : Nat) (hj : j < 7) => c_in w s j (by omega) (by omega))
      obtain ⟨z, hz⟩ : ∃ z : Later Z.heap.size Z, z.val = Z := ⟨Later.self Z, rfl⟩
      rw [← hz]
      clear hZ e1 e2 r1 HT2 hz v
      have w1 : IntKind.i64.wrap ((dg k : Int) + 1) = (dg k : Int) + 1 := IntWalk.i64_in _ (by omega)
      have KX := Lib.hid (fun w : Later Z.heap.size Z => KI.out w x hx7)
      have KY := Lib.hid (fun w : Later Z.heap.size Z => KI.out w y hy7)
      clear KI
      have HN2 := HN.out
      rw [HDk.out] at HN2
      clear HN HDk
      rcases ieq (x : Int) (i : Int) with ⟨g1, d1, d1'⟩ | ⟨g1, d1, d1'⟩ <;> rcases ieq (y : Int) (i : Int) with ⟨g2, d2, d2'⟩ | ⟨g2, d2, d2'⟩ <;> rcases btf (s.testBit x) with g3 | g3 <;> rcases btf (s.testBit y) with g4 | g4
      all_goals
        first | rw [decide_eq_true (show x = i by omega)] at HN2 | rw [decide_eq_false (show ¬ x = i by omega)] at HN2
        first | rw [decide_eq_true (show y = i by omega)] at HN2 | rw [decide_eq_false (show ¬ y = i by omega)] at HN2
        rw [g3, g4] at HN2
        rw [g3] at KX
        rw [g4] at KY
        simp only [Bool.not_true, Bool.not_false, Bool.and_true, Bool.and_false, Bool.or_true, Bool.or_false, Bool.true_and, Bool.false_and, if_true, Bool.false_eq_true, if_false, Nat.add_zero, Bool.true_or, Bool.false_or] at HN2
        have HN3 := Lib.hid HN2
        clear HN2 g1 g2 g3 g4
        go_wp2_with (first | (go_at_call 19; (with_reducible refine (KX.out _).mono ?_); rintro e _ ⟨rfl, v6, rfl⟩) | (go_at_call 19; (with_reducible refine (KY.out _).mono ?_); rintro e _ ⟨rfl, v7, rfl⟩))
        go_roundw
        case rel =>
          first
          | (obtain ⟨w', hw'⟩ := HVU.out v6
             exact ⟨k+1, w', by omega, vint (by first | (rw [HN3.out]; done) | (rw [HN3.out]; rfl)), by go_num, hw'.symm⟩)
          | (obtain ⟨w', hw'⟩ := HVU.out v7
             exact ⟨k+1, w', by omega, vint (by first | (rw [HN3.out]; done) | (rw [HN3.out]; rfl)), by go_num, hw'.symm⟩)
          | (obtain ⟨w', hw'⟩ := HVU.out z
             exact ⟨k+1, w', by omega, vint (by first | (rw [HN3.out]; done) | (rw [HN3.out]; rfl)), by go_num, hw'.symm⟩)
        case measure => simp [intOf]; omega
    · have hke : k = es.length := by omega
      subst hke
      have HR2 : Hid (decide ((dg es.length : Int) ≤ 1) = r) := Lib.hid (by rw [HR.out, decide_eq_decide]; omega)
      clear HR
      go_wp2
      go_ret
      exact Ret.mk v (vbool HR2.out)

end Go.Proofs.YtdhkobeagfmcnaaDoor
