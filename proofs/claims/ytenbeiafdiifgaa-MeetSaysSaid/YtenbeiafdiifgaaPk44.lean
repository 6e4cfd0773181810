
/-
  meet.Common.
-/
import Derived.Test.YtenbeiafdiifgaaPk30
import Derived.Deep.CutRange
namespace Go.Proofs.Ytenbeiafdiifgaa
open Go.RowKit
set_option linter.unusedVariables false

/-- what meet.Common answers -/
def ComAns (n : Nat) (X Y : Nat → Nat) (v : Value) : Prop := ∃ b, v = .tuple #[.int .i64 (setTo X Y (bit n) : Nat), .int .i64 (b : Nat), .int .i64 0] ∧ FirstB n (sz (setTo X Y (bit n))) X Y b

/-- meet.grown's answer in one shape -/
def GrAns1 (n s : Nat) (X Y : Nat → Nat) (v : Value) : Prop := ∃ (t b : Nat) (o : Bool), v = .tuple #[.int .i64 t, .int .i64 b, .bool o] ∧ t < bit n ∧ X t = sz t ∧ Y t = sz t ∧ (o = true → sz t = sz s + 1) ∧ (o = false → sz t = sz (setTo X Y (bit n)) ∧ ∃ U, U < bit n ∧ X U + Y (nand (bit n - 1) U) = sz t)
theorem GrAns.one {n s : Nat} {X Y : Nat → Nat} {v : Value} (h : GrAns n s X Y v) (hX : RkM n X) (hY : RkM n Y) (hs : s < bit n) (h1 : X s = sz s) (h2 : Y s = sz s) : GrAns1 n s X Y v := by
  rcases h with ⟨t, rfl, a1, a2, a3, a4⟩ | ⟨b, rfl, U, hU, hb⟩
  · exact ⟨t, 0, true, rfl, a1, a2, a3, fun _ => a4, fun h => by cases h⟩
  · exact ⟨s, b, false, rfl, hs, h1, h2, (fun h => by cases h), fun _ => ⟨most_of_bar hX hY hs h1 h2 hU hb, U, hU, hb⟩⟩
/-- the measure of the loop of growing -/
def msrC (s ok : Value) : Nat := match ok with
  | .bool true => 10 - sz (intOf s).toNat
  | _ => 0
set_option maxRecDepth 100000 in
set_option maxHeartbeats 16000000 in
theorem c_mtCommon {B : Nat} {W : World} (u : Later B W) (n : Nat) (hn : n ≤ 8) (l1 l2 : List Int) (a b : Option Addr) (cap capb : Nat) (h1 : IntsAt B W a l1) (h2 : IntsAt B W b l2) (hlen1 : l1.length ≤ 4611686018427387904) (hlen2 : l2.length ≤ 4611686018427387904) (he1 : MatIs (n : Int) l1 0) (he2 : MatIs (n : Int) l2 0) :
    Calls Try.prog 13 #[.agg #[.int .i64 n, .slice a l1.length cap], .agg #[.int .i64 n, .slice b l2.length capb]] u.val (RetP B W (fun v w => ComAns n (rk (toN l1)) (rk (toN l2)) v)) := by
  have hbn := bit_le n hn
  have hs1 : (u.val.alloc (.cells #[.int .i64 n, .slice a l1.length cap] 24)).heap.size = u.val.heap.size + 1 := by simp
  have HA : Hid (RowL ((u.val.alloc (.cells #[.int .i64 n, .slice a l1.length cap] 24)).alloc (.cells #[.int .i64 n, .slice b l2.length capb] 24)) u.val.heap.size 24 [.int .i64 n, .slice a l1.length cap]) := Lib.hid ((RowL.new _ _ _).keep ((Below.refl _ _).alloc (Nat.le_refl _) _))
  have HB2 : Hid (RowL ((u.val.alloc (.cells #[.int .i64 n, .slice a l1.length cap] 24)).alloc (.cells #[.int .i64 n, .slice b l2.length capb] 24)) (u.val.heap.size + 1) 24 [.int .i64 n, .slice b l2.length capb]) := Lib.hid (by
    have := RowL.new (u.val.alloc (.cells #[.int .i64 n, .slice a l1.length cap] 24)) 24 [.int .i64 n, .slice b l2.length capb]
    rwa [hs1] at this)
  have HVY : Hid (∀ v : Later ((u.val.alloc (.cells #[.int .i64 n, .slice a l1.length cap] 24)).alloc (.cells #[.int .i64 n, .slice b l2.length capb] 24)).heap.size ((u.val.alloc (.cells #[.int .i64 n, .slice a l1.length cap] 24)).alloc (.cells #[.int .i64 n, .slice b l2.length capb] 24)), ∃ w : Later B W, w.val = v.val) := Lib.hid (fun v => ⟨((u.alloc _).alloc _).up v, rfl⟩)
  have I1 : Hid (IntsAt ((u.val.alloc (.cells #[.int .i64 n, .slice a l1.length cap] 24)).alloc (.cells #[.int .i64 n, .slice b l2.length capb] 24)).heap.size ((u.val.alloc (.cells #[.int .i64 n, .slice a l1.length cap] 24)).alloc (.cells #[.int .i64 n, .slice b l2.length capb] 24)) a l1) := Lib.hid (h1.to ((u.alloc _).alloc _))
  have I2 : Hid (IntsAt ((u.val.alloc (.cells #[.int .i64 n, .slice a l1.length cap] 24)).alloc (.cells #[.int .i64 n, .slice b l2.length capb] 24)).heap.size ((u.val.alloc (.cells #[.int .i64 n, .slice a l1.length cap] 24)).alloc (.cells #[.int .i64 n, .slice b l2.length capb] 24)) b l2) := Lib.hid (h2.to ((u.alloc _).alloc _))
  have KB : Hid (Calls Try.prog 23 #[.agg #[.int .i64 n, .slice a l1.length cap], .agg #[.int .i64 n, .slice b l2.length capb]] ((u.val.alloc (.cells #[.int .i64 n, .slice a l1.length cap] 24)).alloc (.cells #[.int .i64 n, .slice b l2.length capb] 24)) (Ret ((u.val.alloc (.cells #[.int .i64 n, .slice a l1.length cap] 24)).alloc (.cells #[.int .i64 n, .slice b l2.length capb] 24)).heap.size ((u.val.alloc (.cells #[.int .i64 n, .slice a l1.length cap] 24)).alloc (.cells #[.int .i64 n, .slice b l2.length capb] 24)) (.int .i64 0))) := Lib.hid (c_mtBoth (Later.self _) n n l1 l2 a b cap capb 0 0 0 I1.out I2.out hlen1 hlen2 he1 he2 (.inr (.inr (.inr ⟨rfl, rfl, rfl, rfl⟩))))
  have KX : Hid (∀ v : Later ((u.val.alloc (.cells #[.int .i64 n, .slice a l1.length cap] 24)).alloc (.cells #[.int .i64 n, .slice b l2.length capb] 24)).heap.size ((u.val.alloc (.cells #[.int .i64 n, .slice a l1.length cap] 24)).alloc (.cells #[.int .i64 n, .slice b l2.length capb] 24)), Calls Try.prog 24 #[.agg #[.int .i64 n, .slice a l1.length cap]] v.val (RetP v.val.heap.size v.val (fun x w => ∃ g c, x = .slice (some ⟨g, 0, none⟩) (bit n) c ∧ ITab w g (bit n) (fun j => (rk (toN l1) j : Int))))) := Lib.hid (fun v => c_mtRanks (Later.self v.val) n hn l1 a cap (I1.out.to v) hlen1 he1)
  have KY : Hid (∀ v : Later ((u.val.alloc (.cells #[.int .i64 n, .slice a l1.length cap] 24)).alloc (.cells #[.int .i64 n, .slice b l2.length capb] 24)).heap.size ((u.val.alloc (.cells #[.int .i64 n, .slice a l1.length cap] 24)).alloc (.cells #[.int .i64 n, .slice b l2.length capb] 24)), Calls Try.prog 24 #[.agg #[.int .i64 n, .slice b l2.length capb]] v.val (RetP v.val.heap.size v.val (fun x w => ∃ g c, x = .slice (some ⟨g, 0, none⟩) (bit n) c ∧ ITab w g (bit n) (fun j => (rk (toN l2) j : Int))))) := Lib.hid (fun v => c_mtRanks (Later.self v.val) n hn l2 b capb (I2.out.to v) hlen2 he2)
  have HX : Hid (RkM n (rk (toN l1))) := Lib.hid (rkM_of_mat he1.ok.1 he1.ok.2)
  have HY : Hid (RkM n (rk (toN l2))) := Lib.hid (rkM_of_mat he2.ok.1 he2.ok.2)
  clear h1 h2 he1 he2 hs1 I1 I2
  generalize rk (toN l1) = X at *
  generalize rk (toN l2) = Y at *
  go_enter Try.func13, Try.ntmps13
  go_upto_region 1 with fail
  generalize ((u.val.alloc (.cells #[.int .i64 n, .slice a l1.length cap] 24)).alloc (.cells #[.int .i64 n, .slice b l2.length capb] 24)) = A at *
  generalize u.val.heap.size = g at *
  have q0 : ∀ w : Later A.heap.size A, w.val.cell? ⟨g, 0, none⟩ = some (.int .i64 n) := fun w => (HA.out.keep w.below).cell rfl
  have q1 : ∀ w : Later A.heap.size A, w.val.cell? ⟨g, 1, none⟩ = some (.slice a l1.length cap) := fun w => (HA.out.keep w.below).cell rfl
  have q2 : ∀ w : Later A.heap.size A, w.val.cell? ⟨g + 1, 0, none⟩ = some (.int .i64 n) := fun w => (HB2.out.keep w.below).cell rfl
  have q3 : ∀ w : Later A.heap.size A, w.val.cell? ⟨g + 1, 1, none⟩ = some (.slice b l2.length capb) := fun w => (HB2.out.keep w.below).cell rfl
  have p0 := q0 (Later.self A)
  have p1 := q1 (Later.self A)
  have p2 := q2 (Later.self A)
  have p3 := q3 (Later.self A)
  simp only [Later.self] at p0 p1 p2 p3
  have z0 : ((0 : Int) != 0) = false := rfl
  clear u HA HB2
  generalize g + 1 = g' at *
  go_upto_region 4 with (first | (go_at_call 23; (with_reducible refine (KB.out).mono ?_); rintro e _ ⟨rfl, y, rfl⟩) | fail)
  clear p0 p1 p2 p3 KB
  have s0 : ∀ w : Later A.heap.size A, w.val.cell? ⟨g, 0, none⟩ = some (.int .i64 n) ∧ w.val.cell? ⟨g, 1, none⟩ = some (.slice a l1.length cap) ∧ w.val.cell? ⟨g', 0, none⟩ = some (.int .i64 n) ∧ w.val.cell? ⟨g', 1, none⟩ = some (.slice b l2.length capb) := fun w => ⟨q0 w, q1 w, q2 w, q3 w⟩
  have KX1 : Hid (Calls Try.prog 24 #[.agg #[.int .i64 n, .slice a l1.length cap]] y.val.drew (RetP y.val.drew.heap.size y.val.drew (fun x w => ∃ g c, x = .slice (some ⟨g, 0, none⟩) (bit n) c ∧ ITab w g (bit n) (fun j => (X j : Int))))) := Lib.hid (KX.out y.drew)
  have KY1 : Hid (∀ v1 : Later y.val.drew.heap.size y.val.drew, Calls Try.prog 24 #[.agg #[.int .i64 n, .slice b l2.length capb]] v1.val (RetP v1.val.heap.size v1.val (fun x w => ∃ g c, x = .slice (some ⟨g, 0, none⟩) (bit n) c ∧ ITab w g (bit n) (fun j => (Y j : Int))))) := Lib.hid (fun v1 => KY.out (y.drew.up v1))
  have HVy : Hid (∀ v1 : Later y.val.drew.heap.size y.val.drew, ∃ w : Later A.heap.size A, w.val = v1.val) := Lib.hid (fun v1 => ⟨y.drew.up v1, rfl⟩)
  have s00 := s0 y
  have s01 : ∀ v1 : Later y.val.drew.heap.size y.val.drew, v1.val.cell? ⟨g, 0, none⟩ = some (.int .i64 n) ∧ v1.val.cell? ⟨g, 1, none⟩ = some (.slice a l1.length cap) ∧ v1.val.cell? ⟨g', 0, none⟩ = some (.int .i64 n) ∧ v1.val.cell? ⟨g', 1, none⟩ = some (.slice b l2.length capb) := fun v1 => s0 (y.drew.up v1)
  clear s0 q1 q2 q3 KX KY
  go_region_held3 (fun w' => w'.cell? ⟨g, 0, none⟩ = some (.int .i64 n) ∧ w'.cell? ⟨g, 1, none⟩ = some (.slice a l1.length cap) ∧ w'.cell? ⟨g', 0, none⟩ = some (.int .i64 n) ∧ w'.cell? ⟨g', 1, none⟩ = some (.slice b l2.length capb)) (first | exact s00 | exact s01 (v1.up v2) | exact s01 v1 | fail) (first | (go_at_call 24; (with_reducible refine (KX1.out).mono ?_); rintro e _ ⟨_, rfl, ⟨gx, cx, rfl, hTx⟩, v1, rfl⟩) | (go_at_call 24; (with_reducible refine (KY1.out v1).mono ?_); rintro e _ ⟨_, rfl, ⟨gy, cy, rfl, hTy⟩, v2, rfl⟩) | fail)
  have HTx := Lib.hid (hTx.keep v2.below)
  have HTy := Lib.hid hTy
  obtain ⟨C, hC⟩ : ∃ C, C = v2.val := ⟨_, rfl⟩
  have HVC : Hid (∀ v : Later C.heap.size C, ∃ w : Later A.heap.size A, w.val = v.val) := Lib.hid (fun v => by subst hC; exact HVy.out ((v1.up v2).up v))
  have qc : ∀ w : Later C.heap.size C, w.val.cell? ⟨g, 0, none⟩ = some (.int .i64 n) := fun w => by
    obtain ⟨x, hx⟩ := HVC.out w
    rw [← hx]; exact q0 x
  have HVA : Hid (∀ v : Later C.heap.size C, ∃ w : Later B W, w.val = v.val) := Lib.hid (fun v => by
    obtain ⟨x, hx⟩ := HVC.out v
    rw [← hx]; exact HVY.out x)
  rw [← hC] at HTx HTy ⊢
  have hgx := HTx.out.lt
  have hgy := HTy.out.lt
  have KG : Hid (∀ (v : Later C.heap.size C) (s : Nat), s < bit n → X s = sz s → Y s = sz s → Calls Try.prog 25 #[.slice (some ⟨gx, 0, none⟩) (bit n) cx, .slice (some ⟨gy, 0, none⟩) (bit n) cy, .int .i64 n, .int .i64 s] v.val (RetP C.heap.size C (fun v w => GrAns1 n s X Y v))) := Lib.hid (fun v s hs h1 h2 => (c_grownM v n s gx cx gy cy X Y HX.out HY.out hs h1 h2 hgx hgy HTx.out HTy.out).mono (fun e w ⟨v, a, b, c⟩ => ⟨v, a, b.one HX.out HY.out hs h1 h2, c⟩))
  clear hTx hTy s00 s01 q0 HVy KX1 KY1
  obtain ⟨z, hz⟩ : ∃ z : Later C.heap.size C, z.val = C := ⟨Later.self _, rfl⟩
  rw [← hz]
  rw [← hz] at hC
  clear hz
  have HKC := Lib.hid hC
  clear hC
  go_wp2
  go_loopw [10, 11] (fun sv ok wr => ∃ (s : Nat) (o : Bool) (v : Later C.heap.size C), sv = .int .i64 s ∧ ok = .bool o ∧ wr = v.val ∧ s < bit n ∧ Hid (X s = sz s) ∧ Hid (Y s = sz s) ∧ Hid (o = false → sz s = sz (setTo X Y (bit n)) ∧ ∃ U, U < bit n ∧ X U + Y (nand (bit n - 1) U) = sz s)) (fun s ok _ => msrC s ok)
  case atStart => exact ⟨0, true, z, rfl, rfl, rfl, by omega, Lib.hid (by rw [HX.out.zero, sz_zero]), Lib.hid (by rw [HY.out.zero, sz_zero]), Lib.hid (fun h => by cases h)⟩
  case round =>
    clear HKC z
    obtain ⟨s, o, v, rfl, rfl, rfl, hs, H1, H2, H3⟩ := hrel
    have qv := qc v
    cases o
    · have H4 := Lib.hid (H3.out rfl)
      have HSZ := Lib.hid (fun (v : Later C.heap.size C) (t : Nat) (ht : t < 256) => c_mtSize v t ht)
      have h8 := sz_le s
      have K1 := Lib.hid (HSZ.out v s (by omega))
      clear H3 KG qv
      go_upto_region 10 with (first | (go_at_call 26; (with_reducible refine (K1.out).mono ?_); rintro e _ ⟨rfl, y, rfl⟩) | fail)
      have H5 := Lib.hid H4.out.1
      have HBx := Lib.hid H4.out.2
      clear H4
      clear K1 H1 H2
      generalize sz s = most at *
      go_wp2
      go_loopw [4, 13, 40] (fun st tt i wr => ∃ (k : Nat) (v : Later C.heap.size C), k ≤ bit n ∧ i = .int .i64 k ∧ wr = v.val ∧ st = .int .i64 0 ∧ Hid (∀ j, j < k → ¬ (sz j = most ∧ X j = most ∧ Y j = most))) (fun _ _ i _ => bit n - (intOf i).toNat)
      case atStart => exact ⟨0, y, by omega, rfl, rfl, rfl, Lib.hid (fun j hj => by omega)⟩
      case round =>
        clear y
        obtain ⟨k, y, hk, rfl, rfl, rfl, HN⟩ := hrel
        by_cases hlt : k < bit n
        · have fx : ∀ w : Later C.heap.size C, w.val.cell? ⟨gx, k, none⟩ = some (.int .i64 (X k : Int)) := fun w => (HTx.out.keep_at w.below hgx).cell hlt
          have fy : ∀ w : Later C.heap.size C, w.val.cell? ⟨gy, k, none⟩ = some (.int .i64 (Y k : Int)) := fun w => (HTy.out.keep_at w.below hgy).cell hlt
          have K2 := Lib.hid (HSZ.out y k (by omega))
          obtain ⟨d1, hd1⟩ : ∃ d1, ((sz k : Int) == (most : Int)) = d1 := ⟨_, rfl⟩
          obtain ⟨d2, hd2⟩ : ∃ d2, ((X k : Int) == (most : Int)) = d2 := ⟨_, rfl⟩
          obtain ⟨d3, hd3⟩ : ∃ d3, ((Y k : Int) == (most : Int)) = d3 := ⟨_, rfl⟩
          have HD : Hid ((d1 && d2 && d3) = true ↔ (sz k = most ∧ X k = most ∧ Y k = most)) := Lib.hid (by
            rw [← hd1, ← hd2, ← hd3, Bool.and_eq_true, Bool.and_eq_true, beq_iff_eq, beq_iff_eq, beq_iff_eq, and_assoc]; omega)
          have HNo : (d1 && d2 && d3) = false → Hid (∀ j, j < k + 1 → ¬ (sz j = most ∧ X j = most ∧ Y j = most)) := fun h => Lib.hid (fun j hj hc => by
            by_cases e : j = k
            · subst e
              have := HD.out.2 hc
              rw [h] at this; cases this
            · exact HN.out j (by omega) hc)
          cases d1
          · have HN2 := HNo rfl
            clear HNo HD
            go_wp2_with (first | (go_at_call 26; (with_reducible refine (K2.out).mono ?_); rintro e _ ⟨rfl, z, rfl⟩))
            go_roundw
            case rel => exact ⟨k + 1, z, by omega, by go_num, rfl, rfl, HN2⟩
            case measure => simp [intOf]; omega
          · cases d2
            · have HN2 := HNo rfl
              clear HNo HD
              go_wp2_with (first | (go_at_call 26; (with_reducible refine (K2.out).mono ?_); rintro e _ ⟨rfl, z, rfl⟩; have fxz := fx z; have fyz := fy z))
              go_roundw
              case rel => exact ⟨k + 1, z, by omega, by go_num, rfl, rfl, HN2⟩
              case measure => simp [intOf]; omega
            · cases d3
              · have HN2 := HNo rfl
                clear HNo HD
                go_wp2_with (first | (go_at_call 26; (with_reducible refine (K2.out).mono ?_); rintro e _ ⟨rfl, z, rfl⟩; have fxz := fx z; have fyz := fy z))
                go_roundw
                case rel => exact ⟨k + 1, z, by omega, by go_num, rfl, rfl, HN2⟩
                case measure => simp [intOf]; omega
              · have hk2 := HD.out.1 rfl
                have HE : Hid (k = setTo X Y (bit n)) := Lib.hid (setTo_eq HX.out.zero HY.out.zero (by omega) H5.out hlt hk2.1 hk2.2.1 hk2.2.2 HN.out)
                clear HNo HD hk2
                go_upto_region 16 with (first | (go_at_call 26; (with_reducible refine (K2.out).mono ?_); rintro e _ ⟨rfl, z, rfl⟩; have fxz := fx z; have fyz := fy z) | fail)
                go_wp2
                go_loopw [5, 14, 67] (fun st tt i wr => ∃ (q : Nat) (v : Later C.heap.size C), q ≤ bit n ∧ i = .int .i64 q ∧ wr = v.val ∧ st = .int .i64 0 ∧ Hid (∀ j, j < q → X j + Y (nand (bit n - 1) j) ≠ most)) (fun _ _ i _ => bit n - (intOf i).toNat)
                case atStart => exact ⟨0, z, by omega, rfl, rfl, rfl, Lib.hid (fun j hj => by omega)⟩
                case round =>
                  clear K2 fx fy hd1 hd2 hd3
                  obtain ⟨q, y2, hq, rfl, rfl, rfl, HM⟩ := hrel
                  by_cases hlq : q < bit n
                  · have hnd : nand (bit n - 1) q < bit n := nand_lt _ _ n (by have : 0 < bit n := Nat.two_pow_pos n; unfold bit at *; omega)
                    have gx1 : ∀ w : Later C.heap.size C, w.val.cell? ⟨gx, q, none⟩ = some (.int .i64 (X q : Int)) := fun w => (HTx.out.keep_at w.below hgx).cell hlq
                    have gy1 : ∀ w : Later C.heap.size C, w.val.cell? ⟨gy, nand (bit n - 1) q, none⟩ = some (.int .i64 (Y (nand (bit n - 1) q) : Int)) := fun w => (HTy.out.keep_at w.below hgy).cell hnd
                    have hpn : 0 < bit n := Nat.two_pow_pos n
                    have w0 : IntKind.i64.wrap (((bit n : Nat) : Int) - 1) = ((bit n - 1 : Nat) : Int) := by rw [IntWalk.i64_in _ (by omega)]; omega
                    have an := i64_andNot (bit n - 1) q (by omega) (by omega)
                    have HMn : X q + Y (nand (bit n - 1) q) ≠ most → Hid (∀ j, j < q + 1 → X j + Y (nand (bit n - 1) j) ≠ most) := fun h => Lib.hid (fun j hj => by
                      by_cases e : j = q
                      · subst e; exact h
                      · exact HM.out j (by omega))
                    have HMy : X q + Y (nand (bit n - 1) q) = most → Hid (FirstB n most X Y q) := fun h => Lib.hid ⟨hlq, h, HM.out⟩
                    have hx8 : X q ≤ 8 := Nat.le_trans (HX.out.le_sz hlq) (sz_le _)
                    have hy8 : Y (nand (bit n - 1) q) ≤ 8 := Nat.le_trans (HY.out.le_sz hnd) (sz_le _)
                    generalize nand (bit n - 1) q = md at *
                    have w1 := IntWalk.i64_in ((X q : Int) + (Y md : Int)) (by omega)
                    have y0 := gx1 y2
                    have y1 := gy1 y2
                    by_cases hd : X q + Y md = most
                    · have d4 : ((X q : Int) + (Y md : Int) == (most : Int)) = true := by rw [beq_iff_eq]; omega
                      have HFB := HMy hd
                      clear HMn HMy
                      go_upto_region 19 with fail
                      refine wp_region_later y2 (by kernel_rfl) (by kernel_rfl) (fun _ => ?_)
                      repeat (first | go_big_quiet_step ((fail)) | (refine wpQuiet_step (fun K hK => ?_); go_simp; refine ⟨_, fun _ => rfl, ?_⟩; refine hK _ ?_; clear hK K))
                      refine wpQuiet_nil ?_
                      intro y2
                      go_wp2
                      go_ret3
                      exact RetP.of (HVA.out y2) ⟨q, by rw [← HE.out]; rfl, by rw [← H5.out]; exact HFB.out⟩
                    · have d4 : ((X q : Int) + (Y md : Int) == (most : Int)) = false := by rw [beq_eq_false_iff_ne]; omega
                      have HM2 := HMn hd
                      clear HMn HMy
                      go_upto_region 19 with fail
                      refine wp_region_later y2 (by kernel_rfl) (by kernel_rfl) (fun _ => ?_)
                      repeat (first | go_big_quiet_step ((fail)) | (refine wpQuiet_step (fun K hK => ?_); go_simp; refine ⟨_, fun _ => rfl, ?_⟩; refine hK _ ?_; clear hK K))
                      refine wpQuiet_nil ?_
                      intro y2
                      go_wp2
                      go_roundw
                      case rel => exact ⟨q + 1, y2, by omega, by go_num, rfl, rfl, HM2⟩
                      case measure => simp [intOf]; omega
                  · exfalso
                    obtain ⟨U, hU, hb⟩ := HBx.out
                    exact HM.out U (by omega) hb
        · exfalso
          have hc := setTo_com HX.out.zero HY.out.zero (bit n)
          have hp : 0 < bit n := Nat.two_pow_pos n
          refine HN.out (setTo X Y (bit n)) (by rcases hc.2 with h | h <;> omega) ⟨H5.out.symm, ?_, ?_⟩
          · rw [hc.1.1]; exact H5.out.symm
          · rw [hc.1.2]; exact H5.out.symm
    · have KG1 := Lib.hid (KG.out v s hs H1.out H2.out)
      have h8 := sz_le s
      clear H3
      go_wp2_with (first | (go_at_call 25; (with_reducible refine (KG1.out).mono ?_); rintro e _ ⟨_, rfl, ⟨t, bb, o, rfl, ht, a1, a2, a3, a4⟩, y, rfl⟩))
      go_roundw
      case rel => exact ⟨t, o, y, rfl, rfl, rfl, ht, Lib.hid a1, Lib.hid a2, Lib.hid a4⟩
      case measure =>
        have := sz_le t
        cases o
        · simp [msrC, intOf]; omega
        · have := a3 rfl
          simp [msrC, intOf]; omega
end Go.Proofs.Ytenbeiafdiifgaa
