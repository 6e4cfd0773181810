
/-
  meet.Heaviest where both are matroids.
-/
import Derived.Test.YtenbeiafdiifgaaPk30
import Derived.Test.YtenbeiafdiifgaaPk32
import Derived.Test.YtenbeiafdiifgaaPk35
import Derived.Test.YtenbeiafdiifgaaPk36
import Derived.Deep.CutRange
namespace Go.Proofs.Ytenbeiafdiifgaa
open Go.RowKit
set_option linter.unusedVariables false

def lenM : Value → Nat
  | .slice _ n _ => n
  | _ => 0
set_option maxRecDepth 100000 in
set_option maxHeartbeats 16000000 in
theorem c_mtHeaviest_bad {B : Nat} {W : World} (u : Later B W) (n : Nat) (hn : n ≤ 8) (l1 l2 : List Int) (a b : Option Addr) (cap capb : Nat) (h1 : IntsAt B W a l1) (h2 : IntsAt B W b l2) (hlen1 : l1.length ≤ 4611686018427387904) (hlen2 : l2.length ≤ 4611686018427387904) (he1 : MatIs (n : Int) l1 0) (he2 : MatIs (n : Int) l2 0) (ws : List Int) (ax : Option Addr) (cw : Nat) (e : Int) (hw : IntsAt B W ax ws) (hp : PrcIs n ws e) (h0 : e ≠ 0) :
    Calls Try.prog 14 #[.agg #[.int .i64 n, .slice a l1.length cap], .agg #[.int .i64 n, .slice b l2.length capb], .slice ax ws.length cw] u.val (Ret B W (.tuple #[.slice none 0 0, .int .i64 e])) := by
  have hbn := bit_le n hn
  have hs1 : (u.val.alloc (.cells #[.int .i64 n, .slice a l1.length cap] 24)).heap.size = u.val.heap.size + 1 := by simp
  have HA : Hid (RowL ((u.val.alloc (.cells #[.int .i64 n, .slice a l1.length cap] 24)).alloc (.cells #[.int .i64 n, .slice b l2.length capb] 24)) u.val.heap.size 24 [.int .i64 n, .slice a l1.length cap]) := Lib.hid ((RowL.new _ _ _).keep ((Below.refl _ _).alloc (Nat.le_refl _) _))
  have HB2 : Hid (RowL ((u.val.alloc (.cells #[.int .i64 n, .slice a l1.length cap] 24)).alloc (.cells #[.int .i64 n, .slice b l2.length capb] 24)) (u.val.heap.size + 1) 24 [.int .i64 n, .slice b l2.length capb]) := Lib.hid (by
    have := RowL.new (u.val.alloc (.cells #[.int .i64 n, .slice a l1.length cap] 24)) 24 [.int .i64 n, .slice b l2.length capb]
    rwa [hs1] at this)
  have HVY : Hid (∀ v : Later ((u.val.alloc (.cells #[.int .i64 n, .slice a l1.length cap] 24)).alloc (.cells #[.int .i64 n, .slice b l2.length capb] 24)).heap.size ((u.val.alloc (.cells #[.int .i64 n, .slice a l1.length cap] 24)).alloc (.cells #[.int .i64 n, .slice b l2.length capb] 24)), ∃ w : Later B W, w.val = v.val) := Lib.hid (fun v => ⟨((u.alloc _).alloc _).up v, rfl⟩)
  have I1 : Hid (IntsAt ((u.val.alloc (.cells #[.int .i64 n, .slice a l1.length cap] 24)).alloc (.cells #[.int .i64 n, .slice b l2.length capb] 24)).heap.size ((u.val.alloc (.cells #[.int .i64 n, .slice a l1.length cap] 24)).alloc (.cells #[.int .i64 n, .slice b l2.length capb] 24)) a l1) := Lib.hid (h1.to ((u.alloc _).alloc _))
  have I2 : Hid (IntsAt ((u.val.alloc (.cells #[.int .i64 n, .slice a l1.length cap] 24)).alloc (.cells #[.int .i64 n, .slice b l2.length capb] 24)).heap.size ((u.val.alloc (.cells #[.int .i64 n, .slice a l1.length cap] 24)).alloc (.cells #[.int .i64 n, .slice b l2.length capb] 24)) b l2) := Lib.hid (h2.to ((u.alloc _).alloc _))
  have KB : Hid (Calls Try.prog 23 #[.agg #[.int .i64 n, .slice a l1.length cap], .agg #[.int .i64 n, .slice b l2.length capb]] ((u.val.alloc (.cells #[.int .i64 n, .slice a l1.length cap] 24)).alloc (.cells #[.int .i64 n, .slice b l2.length capb] 24)) (Ret ((u.val.alloc (.cells #[.int .i64 n, .slice a l1.length cap] 24)).alloc (.cells #[.int .i64 n, .slice b l2.length capb] 24)).heap.size ((u.val.alloc (.cells #[.int .i64 n, .slice a l1.length cap] 24)).alloc (.cells #[.int .i64 n, .slice b l2.length capb] 24)) (.int .i64 0))) := Lib.hid (c_mtBoth (Later.self _) n n l1 l2 a b cap capb 0 0 0 I1.out I2.out hlen1 hlen2 he1 he2 (.inr (.inr (.inr ⟨rfl, rfl, rfl, rfl⟩))))
  have KX : Hid (∀ v : Later ((u.val.alloc (.cells #[.int .i64 n, .slice a l1.length cap] 24)).alloc (.cells #[.int .i64 n, .slice b l2.length capb] 24)).heap.size ((u.val.alloc (.cells #[.int .i64 n, .slice a l1.length cap] 24)).alloc (.cells #[.int .i64 n, .slice b l2.length capb] 24)), Calls Try.prog 24 #[.agg #[.int .i64 n, .slice a l1.length cap]] v.val (RetP v.val.heap.size v.val (fun x w => ∃ g c, x = .slice (some ⟨g, 0, none⟩) (bit n) c ∧ ITab w g (bit n) (fun j => (rk (toN l1) j : Int))))) := Lib.hid (fun v => c_mtRanks (Later.self v.val) n hn l1 a cap (I1.out.to v) hlen1 he1)
  have KY : Hid (∀ v : Later ((u.val.alloc (.cells #[.int .i64 n, .slice a l1.length cap] 24)).alloc (.cells #[.int .i64 n, .slice b l2.length capb] 24)).heap.size ((u.val.alloc (.cells #[.int .i64 n, .slice a l1.length cap] 24)).alloc (.cells #[.int .i64 n, .slice b l2.length capb] 24)), Calls Try.prog 24 #[.agg #[.int .i64 n, .slice b l2.length capb]] v.val (RetP v.val.heap.size v.val (fun x w => ∃ g c, x = .slice (some ⟨g, 0, none⟩) (bit n) c ∧ ITab w g (bit n) (fun j => (rk (toN l2) j : Int))))) := Lib.hid (fun v => c_mtRanks (Later.self v.val) n hn l2 b capb (I2.out.to v) hlen2 he2)
  have HX : Hid (RkM n (rk (toN l1))) := Lib.hid (rkM_of_mat he1.ok.1 he1.ok.2)
  have HY : Hid (RkM n (rk (toN l2))) := Lib.hid (rkM_of_mat he2.ok.1 he2.ok.2)
  have HP := Lib.hid hp
  have HW : Hid (IntsAt ((u.val.alloc (.cells #[.int .i64 n, .slice a l1.length cap] 24)).alloc (.cells #[.int .i64 n, .slice b l2.length capb] 24)).heap.size ((u.val.alloc (.cells #[.int .i64 n, .slice a l1.length cap] 24)).alloc (.cells #[.int .i64 n, .slice b l2.length capb] 24)) ax ws) := Lib.hid (hw.to ((u.alloc _).alloc _))
  clear hw hp
  clear h1 h2 he1 he2 hs1 I1 I2
  generalize rk (toN l1) = X at *
  generalize rk (toN l2) = Y at *
  go_enter Try.func14, Try.ntmps14
  go_upto_region 1 with fail
  generalize ((u.val.alloc (.cells #[.int .i64 n, .slice a l1.length cap] 24)).alloc (.cells #[.int .i64 n, .slice b l2.length capb] 24)) = A at *
  generalize u.val.heap.size = g at *
  have q0 : ∀ w : Later A.heap.size A, w.val.cell? ⟨g, 0, none⟩ = some (.int .i64 n) := fun w => (HA.out.keep w.below).cell rfl
  have q1 : ∀ w : Later A.heap.size A, w.val.cell? ⟨g, 1, none⟩ = some (.slice a l1.length cap) := fun w => (HA.out.keep w.below).cell rfl
  have q2 : ∀ w : Later A.heap.size A, w.val.cell? ⟨g + 1, 0, none⟩ = some (.int .i64 n) := fun w => (HB2.out.keep w.below).cell rfl
  have q3 : ∀ w : Later A.heap.size A, w.val.cell? ⟨g + 1, 1, none⟩ = some (.slice b l2.length capb) := fun w => (HB2.out.keep w.below).cell rfl
  have p0 := q0 (Later.self A)
  have p1 := q1 (Later.self A)
  have p2 := q2 (Later.self A)
  have p3 := q3 (Later.self A)
  simp only [Later.self] at p0 p1 p2 p3
  have z0 : ((0 : Int) != 0) = false := rfl
  clear u HA HB2
  generalize g + 1 = g' at *
  go_upto_region 4 with (first | (go_at_call 23; (with_reducible refine (KB.out).mono ?_); rintro e _ ⟨rfl, y, rfl⟩) | fail)
  clear p0 p1 p2 p3 KB
  have q0y := q0 y
  clear HX HY KX KY
  by_cases hl : ws.length = n
  case neg =>
    have he := HP.out.1 hl
    subst he
    have d1 : ((ws.length : Int) != (n : Int)) = true := by rw [bne_iff_ne]; omega
    clear HP HW hl
    generalize ws.length = q at *
    go_wp2
    go_ret2
    exact Ret.of (HVY.out y) rfl
  have H1 : Hid ((∃ i, i < n ∧ ¬ (-1000 ≤ ws.getD i 0 ∧ ws.getD i 0 ≤ 1000)) → e = 1) := Lib.hid (HP.out.2.1 hl)
  have H2 : Hid (¬ ∀ i, i < n → -1000 ≤ ws.getD i 0 ∧ ws.getD i 0 ≤ 1000) := Lib.hid (fun c => h0 (HP.out.2.2 hl c))
  have Hl := Lib.hid hl
  have d1 : ((n : Int) != (n : Int)) = false := by simp
  rw [hl]
  clear HP hl
  go_wp2
  go_loopw [33] (fun i wr => ∃ (k : Nat) (v : Later A.heap.size A), k ≤ n ∧ i = .int .i64 k ∧ wr = v.val ∧ Hid (∀ i, i < k → -1000 ≤ ws.getD i 0 ∧ ws.getD i 0 ≤ 1000)) (fun i _ => n - (intOf i).toNat)
  case atStart => exact ⟨0, y, by omega, by first | rfl | go_num, rfl, Lib.hid (fun i hi => by omega)⟩
  case round =>
    clear q0y y
    obtain ⟨k, v, hk, rfl, rfl, hf⟩ := hrel
    by_cases hlt : k < n
    · obtain ⟨bb, off, rfl, hbB, hcell⟩ := HW.out.at (k := k) (by rw [Hl.out]; exact hlt)
      have c0 : v.val.cell? ⟨bb, off + k, none⟩ = some (.int .i64 (ws.getD k 0)) := hcell v k (by rw [Hl.out]; exact hlt)
      have HX : Hid (¬ (-1000 ≤ ws.getD k 0 ∧ ws.getD k 0 ≤ 1000) → e = 1) := Lib.hid (fun h => H1.out ⟨k, hlt, h⟩)
      have HY : Hid (-1000 ≤ ws.getD k 0 ∧ ws.getD k 0 ≤ 1000 → ∀ i, i < k + 1 → -1000 ≤ ws.getD i 0 ∧ ws.getD i 0 ≤ 1000) := Lib.hid (fun h i hi => by
        by_cases c : i = k
        · subst c; exact h
        · exact hf.out i (by omega))
      clear hcell hf
      generalize ws.getD k 0 = x at *
      rcases ilt x (-1000) with ⟨g1, d2⟩ | ⟨g1, d2⟩
      · have hr := HX.out (by omega)
        subst hr
        clear HX HY H1 H2 g1
        go_wp2
        go_ret2
        exact Ret.of (HVY.out v) rfl
      · rcases ilt 1000 x with ⟨g2, d3⟩ | ⟨g2, d3⟩
        · have hr := HX.out (by omega)
          subst hr
          clear HX HY H1 H2 g1 g2
          go_wp2
          go_ret2
          exact Ret.of (HVY.out v) rfl
        · have HN := Lib.hid (HY.out ⟨by omega, by omega⟩)
          clear HX HY g1 g2
          go_wp2
          go_roundw
          case rel => exact ⟨k+1, v, by omega, by go_num, rfl, HN⟩
          case measure => simp [intOf]; omega
    · exfalso
      exact H2.out (fun i hi => hf.out i (by omega))

/-- what meet.Heaviest answers -/
def HvAns (n : Nat) (X Y : Nat → Nat) (f : Nat → Int) (v : Value) (w : World) : Prop := ∃ (ad : Option Addr) (cp m : Nat) (A : Nat → Int), v = .tuple #[.slice ad m cp, .int .i64 0] ∧ m = sz (setTo X Y (bit n)) + 1 ∧ (∀ j, j < m → BestOn (fun t => (ComP X Y t ∧ sz t = j) ∧ t < bit n) f (A j)) ∧ Reads w.heap.size w (.slice ad m cp) (tabL m A)

set_option maxRecDepth 100000 in
set_option maxHeartbeats 16000000 in
theorem c_mtHeaviest {B : Nat} {W : World} (u : Later B W) (n : Nat) (hn : n ≤ 8) (l1 l2 : List Int) (a b : Option Addr) (cap capb : Nat) (h1 : IntsAt B W a l1) (h2 : IntsAt B W b l2) (hlen1 : l1.length ≤ 4611686018427387904) (hlen2 : l2.length ≤ 4611686018427387904) (he1 : MatIs (n : Int) l1 0) (he2 : MatIs (n : Int) l2 0) (ws : List Int) (ax : Option Addr) (cw : Nat) (hw : IntsAt B W ax ws) (hp : PrcIs n ws 0) :
    Calls Try.prog 14 #[.agg #[.int .i64 n, .slice a l1.length cap], .agg #[.int .i64 n, .slice b l2.length capb], .slice ax ws.length cw] u.val (RetP B W (fun v w => HvAns n (rk (toN l1)) (rk (toN l2)) (fun t => wsT (fun i => ws.getD i 0) t n) v w)) := by
  obtain ⟨hl, hr⟩ := hp.ok
  have HRg := Lib.hid hr
  have Hl := Lib.hid hl
  have HBd : Hid (∀ s k, k ≤ n → -((1000 * k : Nat) : Int) ≤ wsT (fun i => ws.getD i 0) s k ∧ wsT (fun i => ws.getD i 0) s k ≤ ((1000 * k : Nat) : Int)) := Lib.hid (fun s k hk => wsT_bd (s := s) hr k hk)
  have HSt : Hid (∀ s k, wsT (fun i => ws.getD i 0) s (k + 1) = wsT (fun i => ws.getD i 0) s k + ws.getD k 0 * (((s.testBit k).toNat : Nat) : Int)) := Lib.hid (fun s k => rfl)
  have HS0 : Hid (∀ s, wsT (fun i => ws.getD i 0) s 0 = 0) := Lib.hid (fun s => rfl)
  generalize hF : wsT (fun i => ws.getD i 0) = F at *
  clear hr hF
  rw [hl]
  have hbn := bit_le n hn
  have hs1 : (u.val.alloc (.cells #[.int .i64 n, .slice a l1.length cap] 24)).heap.size = u.val.heap.size + 1 := by simp
  have HA : Hid (RowL ((u.val.alloc (.cells #[.int .i64 n, .slice a l1.length cap] 24)).alloc (.cells #[.int .i64 n, .slice b l2.length capb] 24)) u.val.heap.size 24 [.int .i64 n, .slice a l1.length cap]) := Lib.hid ((RowL.new _ _ _).keep ((Below.refl _ _).alloc (Nat.le_refl _) _))
  have HB2 : Hid (RowL ((u.val.alloc (.cells #[.int .i64 n, .slice a l1.length cap] 24)).alloc (.cells #[.int .i64 n, .slice b l2.length capb] 24)) (u.val.heap.size + 1) 24 [.int .i64 n, .slice b l2.length capb]) := Lib.hid (by
    have := RowL.new (u.val.alloc (.cells #[.int .i64 n, .slice a l1.length cap] 24)) 24 [.int .i64 n, .slice b l2.length capb]
    rwa [hs1] at this)
  have HVY : Hid (∀ v : Later ((u.val.alloc (.cells #[.int .i64 n, .slice a l1.length cap] 24)).alloc (.cells #[.int .i64 n, .slice b l2.length capb] 24)).heap.size ((u.val.alloc (.cells #[.int .i64 n, .slice a l1.length cap] 24)).alloc (.cells #[.int .i64 n, .slice b l2.length capb] 24)), ∃ w : Later B W, w.val = v.val) := Lib.hid (fun v => ⟨((u.alloc _).alloc _).up v, rfl⟩)
  have I1 : Hid (IntsAt ((u.val.alloc (.cells #[.int .i64 n, .slice a l1.length cap] 24)).alloc (.cells #[.int .i64 n, .slice b l2.length capb] 24)).heap.size ((u.val.alloc (.cells #[.int .i64 n, .slice a l1.length cap] 24)).alloc (.cells #[.int .i64 n, .slice b l2.length capb] 24)) a l1) := Lib.hid (h1.to ((u.alloc _).alloc _))
  have I2 : Hid (IntsAt ((u.val.alloc (.cells #[.int .i64 n, .slice a l1.length cap] 24)).alloc (.cells #[.int .i64 n, .slice b l2.length capb] 24)).heap.size ((u.val.alloc (.cells #[.int .i64 n, .slice a l1.length cap] 24)).alloc (.cells #[.int .i64 n, .slice b l2.length capb] 24)) b l2) := Lib.hid (h2.to ((u.alloc _).alloc _))
  have KB : Hid (Calls Try.prog 23 #[.agg #[.int .i64 n, .slice a l1.length cap], .agg #[.int .i64 n, .slice b l2.length capb]] ((u.val.alloc (.cells #[.int .i64 n, .slice a l1.length cap] 24)).alloc (.cells #[.int .i64 n, .slice b l2.length capb] 24)) (Ret ((u.val.alloc (.cells #[.int .i64 n, .slice a l1.length cap] 24)).alloc (.cells #[.int .i64 n, .slice b l2.length capb] 24)).heap.size ((u.val.alloc (.cells #[.int .i64 n, .slice a l1.length cap] 24)).alloc (.cells #[.int .i64 n, .slice b l2.length capb] 24)) (.int .i64 0))) := Lib.hid (c_mtBoth (Later.self _) n n l1 l2 a b cap capb 0 0 0 I1.out I2.out hlen1 hlen2 he1 he2 (.inr (.inr (.inr ⟨rfl, rfl, rfl, rfl⟩))))
  have KX : Hid (∀ v : Later ((u.val.alloc (.cells #[.int .i64 n, .slice a l1.length cap] 24)).alloc (.cells #[.int .i64 n, .slice b l2.length capb] 24)).heap.size ((u.val.alloc (.cells #[.int .i64 n, .slice a l1.length cap] 24)).alloc (.cells #[.int .i64 n, .slice b l2.length capb] 24)), Calls Try.prog 24 #[.agg #[.int .i64 n, .slice a l1.length cap]] v.val (RetP v.val.heap.size v.val (fun x w => ∃ g c, x = .slice (some ⟨g, 0, none⟩) (bit n) c ∧ ITab w g (bit n) (fun j => (rk (toN l1) j : Int))))) := Lib.hid (fun v => c_mtRanks (Later.self v.val) n hn l1 a cap (I1.out.to v) hlen1 he1)
  have KY : Hid (∀ v : Later ((u.val.alloc (.cells #[.int .i64 n, .slice a l1.length cap] 24)).alloc (.cells #[.int .i64 n, .slice b l2.length capb] 24)).heap.size ((u.val.alloc (.cells #[.int .i64 n, .slice a l1.length cap] 24)).alloc (.cells #[.int .i64 n, .slice b l2.length capb] 24)), Calls Try.prog 24 #[.agg #[.int .i64 n, .slice b l2.length capb]] v.val (RetP v.val.heap.size v.val (fun x w => ∃ g c, x = .slice (some ⟨g, 0, none⟩) (bit n) c ∧ ITab w g (bit n) (fun j => (rk (toN l2) j : Int))))) := Lib.hid (fun v => c_mtRanks (Later.self v.val) n hn l2 b capb (I2.out.to v) hlen2 he2)
  have HX : Hid (RkM n (rk (toN l1))) := Lib.hid (rkM_of_mat he1.ok.1 he1.ok.2)
  have HY : Hid (RkM n (rk (toN l2))) := Lib.hid (rkM_of_mat he2.ok.1 he2.ok.2)
  have HP := Lib.hid hp
  have HW : Hid (IntsAt ((u.val.alloc (.cells #[.int .i64 n, .slice a l1.length cap] 24)).alloc (.cells #[.int .i64 n, .slice b l2.length capb] 24)).heap.size ((u.val.alloc (.cells #[.int .i64 n, .slice a l1.length cap] 24)).alloc (.cells #[.int .i64 n, .slice b l2.length capb] 24)) ax ws) := Lib.hid (hw.to ((u.alloc _).alloc _))
  clear hw hp hl
  clear h1 h2 he1 he2 hs1 I1 I2
  generalize rk (toN l1) = X at *
  generalize rk (toN l2) = Y at *
  go_enter Try.func14, Try.ntmps14
  go_upto_region 1 with fail
  generalize ((u.val.alloc (.cells #[.int .i64 n, .slice a l1.length cap] 24)).alloc (.cells #[.int .i64 n, .slice b l2.length capb] 24)) = A at *
  generalize u.val.heap.size = g at *
  have q0 : ∀ w : Later A.heap.size A, w.val.cell? ⟨g, 0, none⟩ = some (.int .i64 n) := fun w => (HA.out.keep w.below).cell rfl
  have q1 : ∀ w : Later A.heap.size A, w.val.cell? ⟨g, 1, none⟩ = some (.slice a l1.length cap) := fun w => (HA.out.keep w.below).cell rfl
  have q2 : ∀ w : Later A.heap.size A, w.val.cell? ⟨g + 1, 0, none⟩ = some (.int .i64 n) := fun w => (HB2.out.keep w.below).cell rfl
  have q3 : ∀ w : Later A.heap.size A, w.val.cell? ⟨g + 1, 1, none⟩ = some (.slice b l2.length capb) := fun w => (HB2.out.keep w.below).cell rfl
  have p0 := q0 (Later.self A)
  have p1 := q1 (Later.self A)
  have p2 := q2 (Later.self A)
  have p3 := q3 (Later.self A)
  simp only [Later.self] at p0 p1 p2 p3
  have z0 : ((0 : Int) != 0) = false := rfl
  clear u HA HB2
  generalize g + 1 = g' at *
  go_upto_region 4 with (first | (go_at_call 23; (with_reducible refine (KB.out).mono ?_); rintro e _ ⟨rfl, y, rfl⟩) | fail)
  clear p0 p1 p2 p3 KB
  have q0y := q0 y
  have d1 : ((n : Int) != (n : Int)) = false := by simp
  go_wp2
  go_loopw [33] (fun i wr => ∃ (k : Nat) (v : Later A.heap.size A), k ≤ n ∧ i = .int .i64 k ∧ wr = v.val) (fun i _ => n - (intOf i).toNat)
  case atStart => exact ⟨0, y, by omega, by first | rfl | go_num, rfl⟩
  case round =>
    clear q0y y
    obtain ⟨k, y, hk, rfl, rfl⟩ := hrel
    by_cases hlt : k < n
    · obtain ⟨bb, off, rfl, hbB, hcell⟩ := HW.out.at (k := k) (by rw [Hl.out]; exact hlt)
      have c0 : y.val.cell? ⟨bb, off + k, none⟩ = some (.int .i64 (ws.getD k 0)) := hcell y k (by rw [Hl.out]; exact hlt)
      have hg := HRg.out k hlt
      have d2 : decide (ws.getD k 0 < -1000) = false := decide_eq_false (by omega)
      have d3 : decide (1000 < ws.getD k 0) = false := decide_eq_false (by omega)
      clear hcell KX KY
      generalize ws.getD k 0 = x at *
      go_wp2
      go_roundw
      case rel => exact ⟨k+1, y, by omega, by go_num, rfl⟩
      case measure => simp [intOf]; omega
    · have hke : k = n := by omega
      subst hke
      clear hlt hk
      go_upto_region 12 with fail
      have s0 : ∀ w : Later A.heap.size A, w.val.cell? ⟨g, 0, none⟩ = some (.int .i64 k) ∧ w.val.cell? ⟨g, 1, none⟩ = some (.slice a l1.length cap) ∧ w.val.cell? ⟨g', 0, none⟩ = some (.int .i64 k) ∧ w.val.cell? ⟨g', 1, none⟩ = some (.slice b l2.length capb) := fun w => ⟨q0 w, q1 w, q2 w, q3 w⟩
      have KX1 : Hid (Calls Try.prog 24 #[.agg #[.int .i64 k, .slice a l1.length cap]] y.val.drew (RetP y.val.drew.heap.size y.val.drew (fun x w => ∃ g c, x = .slice (some ⟨g, 0, none⟩) (bit k) c ∧ ITab w g (bit k) (fun j => (X j : Int))))) := Lib.hid (KX.out y.drew)
      have KY1 : Hid (∀ v1 : Later y.val.drew.heap.size y.val.drew, Calls Try.prog 24 #[.agg #[.int .i64 k, .slice b l2.length capb]] v1.val (RetP v1.val.heap.size v1.val (fun x w => ∃ g c, x = .slice (some ⟨g, 0, none⟩) (bit k) c ∧ ITab w g (bit k) (fun j => (Y j : Int))))) := Lib.hid (fun v1 => KY.out (y.drew.up v1))
      have HVy : Hid (∀ v1 : Later y.val.drew.heap.size y.val.drew, ∃ w : Later A.heap.size A, w.val = v1.val) := Lib.hid (fun v1 => ⟨y.drew.up v1, rfl⟩)
      have s00 := s0 y
      have s01 : ∀ v1 : Later y.val.drew.heap.size y.val.drew, v1.val.cell? ⟨g, 0, none⟩ = some (.int .i64 k) ∧ v1.val.cell? ⟨g, 1, none⟩ = some (.slice a l1.length cap) ∧ v1.val.cell? ⟨g', 0, none⟩ = some (.int .i64 k) ∧ v1.val.cell? ⟨g', 1, none⟩ = some (.slice b l2.length capb) := fun v1 => s0 (y.drew.up v1)
      clear s0 q1 q2 q3 KX KY
      go_region_held3 (fun w' => w'.cell? ⟨g, 0, none⟩ = some (.int .i64 k) ∧ w'.cell? ⟨g, 1, none⟩ = some (.slice a l1.length cap) ∧ w'.cell? ⟨g', 0, none⟩ = some (.int .i64 k) ∧ w'.cell? ⟨g', 1, none⟩ = some (.slice b l2.length capb)) (first | exact s00 | exact s01 (v1.up v2) | exact s01 v1 | fail) (first | (go_at_call 24; (with_reducible refine (KX1.out).mono ?_); rintro e _ ⟨_, rfl, ⟨gx, cx, rfl, hTx⟩, v1, rfl⟩) | (go_at_call 24; (with_reducible refine (KY1.out v1).mono ?_); rintro e _ ⟨_, rfl, ⟨gy, cy, rfl, hTy⟩, v2, rfl⟩) | fail)
      have HTx := Lib.hid (hTx.keep v2.below)
      have HTy := Lib.hid hTy
      obtain ⟨C, hC⟩ : ∃ C, C = v2.val := ⟨_, rfl⟩
      have HVC : Hid (∀ v : Later C.heap.size C, ∃ w : Later A.heap.size A, w.val = v.val) := Lib.hid (fun v => by subst hC; exact HVy.out ((v1.up v2).up v))
      have qc : ∀ w : Later C.heap.size C, w.val.cell? ⟨g, 0, none⟩ = some (.int .i64 k) := fun w => by
        obtain ⟨x, hx⟩ := HVC.out w
        rw [← hx]; exact q0 x
      have HVA : Hid (∀ v : Later C.heap.size C, ∃ w : Later B W, w.val = v.val) := Lib.hid (fun v => by
        obtain ⟨x, hx⟩ := HVC.out v
        rw [← hx]; exact HVY.out x)
      rw [← hC] at HTx HTy ⊢
      have hgx := HTx.out.lt
      have hgy := HTy.out.lt
      clear hTx hTy s00 s01 q0 HVy KX1 KY1
      obtain ⟨z, hz⟩ : ∃ z : Later C.heap.size C, z.val = C := ⟨Later.self _, rfl⟩
      rw [← hz]
      rw [← hz] at hC
      clear hz
      have HKC := Lib.hid hC
      clear hC
      have HWC : Hid (IntsAt C.heap.size C ax ws) := Lib.hid (by
        obtain ⟨x, hx⟩ := HVC.out (Later.self C)
        have := HW.out.to x
        rw [hx] at this
        exact this)
      have HSZ := Lib.hid (fun (v : Later C.heap.size C) (t : Nat) (ht : t < 256) => c_mtSize v t ht)
      clear HW HVC qc d1
      go_wp2
      go_loopw [13, 14, 50] (fun ov bv i wr => ∃ (K m c1 c2 : Nat) (A G : Nat → Int) (a1 a2 : Option Addr) (v : Later C.heap.size C), K ≤ bit k ∧ m ≤ 9 ∧ i = .int .i64 K ∧ ov = .slice a1 m c1 ∧ bv = .slice a2 m c2 ∧ wr = v.val ∧ Hid (HvI X Y (fun t => F t k) m A G K) ∧ Hid (Own C.heap.size v.val a1 c1 (tabL m A)) ∧ Hid (Own C.heap.size v.val a2 c2 (tabL m G)) ∧ Hid (Apart a1 a2)) (fun _ _ i _ => bit k - (intOf i).toNat)
      case atStart => exact ⟨0, 0, 0, 0, fun _ => 0, fun _ => 0, none, none, z, by omega, by omega, by first | rfl | go_num, rfl, rfl, rfl, Lib.hid (HvI.zero _ _ _ _ _), Lib.hid (Own.nil _ _), Lib.hid (Own.nil _ _), Lib.hid (Apart.none _)⟩
      case round =>
        clear HKC z
        obtain ⟨K, m, c1, c2, A, G, a1, a2, z, hK, hm9, rfl, rfl, rfl, rfl, HI, HO, HG, HAp⟩ := hrel
        by_cases hlK : K < bit k
        · have h8 := sz_le K
          have fx : ∀ w : Later C.heap.size C, w.val.cell? ⟨gx, K, none⟩ = some (.int .i64 (X K : Int)) := fun w => (HTx.out.keep_at w.below hgx).cell hlK
          have fy : ∀ w : Later C.heap.size C, w.val.cell? ⟨gy, K, none⟩ = some (.int .i64 (Y K : Int)) := fun w => (HTy.out.keep_at w.below hgy).cell hlK
          have K2 : Hid (Calls Try.prog 26 #[.int .i64 K] z.val (Ret z.val.heap.size z.val (.int .i64 (sz K)))) := Lib.hid (c_mtSize (Later.self z.val) K (by omega))
          obtain ⟨d1, hd1⟩ : ∃ d1, ((X K : Int) != (sz K : Int)) = d1 := ⟨_, rfl⟩
          obtain ⟨d2, hd2⟩ : ∃ d2, ((Y K : Int) != (sz K : Int)) = d2 := ⟨_, rfl⟩
          have HD : Hid ((d1 = false ∧ d2 = false) ↔ ComP X Y K) := Lib.hid (by
            rw [← hd1, ← hd2, bne_eq_false_iff_eq, bne_eq_false_iff_eq]
            unfold ComP; omega)
          have HNo : ¬ (d1 = false ∧ d2 = false) → Hid (HvI X Y (fun t => F t k) m A G (K + 1)) := fun h => Lib.hid (HI.out.skip (fun hc => h (HD.out.2 hc)))
          cases d1
          · cases d2
            · have HC : Hid (ComP X Y K) := Lib.hid (HD.out.1 ⟨rfl, rfl⟩)
              clear HNo HD
              go_upto_region 19 with (first | (go_at_call 26; (with_reducible refine (K2.out).mono ?_); rintro e _ ⟨rfl, z1, rfl⟩; have fxz := fx (z.up z1); have fyz := fy (z.up z1); dsimp only [Later.up, Later.to] at fxz fyz) | fail)
              obtain ⟨y2, hy2⟩ : ∃ y2 : Later C.heap.size C, y2.val = z1.val := ⟨z.up z1, rfl⟩
              have HO1 : Hid (Own C.heap.size y2.val a1 c1 (tabL m A)) := Lib.hid (by rw [hy2]; exact HO.out.keep z1.below)
              have HG1 : Hid (Own C.heap.size y2.val a2 c2 (tabL m G)) := Lib.hid (by rw [hy2]; exact HG.out.keep z1.below)
              rw [← hy2]
              clear hy2 fxz fyz z1 HO HG K2 fx fy hd1 hd2
              go_wp2
              go_loopw [17, 71] (fun sv i wr => ∃ q : Nat, q ≤ k ∧ sv = .int .i64 (F K q) ∧ i = .int .i64 q ∧ wr = y2.val) (fun _ i _ => k - (intOf i).toNat)
              case atStart => exact ⟨0, by omega, by rw [HS0.out], by first | rfl | go_num, rfl⟩
              case round =>
                obtain ⟨q, hq, rfl, rfl, rfl⟩ := hrel
                by_cases hlq : q < k
                · obtain ⟨bb, off, rfl, hbB, hcell⟩ := HWC.out.at (k := q) (by rw [Hl.out]; exact hlq)
                  have c0 : y2.val.cell? ⟨bb, off + q, none⟩ = some (.int .i64 (ws.getD q 0)) := hcell y2 q (by rw [Hl.out]; exact hlq)
                  have hb1 := HBd.out K q hq
                  have hb2 := HRg.out q hlq
                  have HN := Lib.hid (HSt.out K q)
                  have s1 := shr_andG K q (by omega)
                  clear hcell
                  generalize ws.getD q 0 = x at *
                  generalize F K q = p at hb1 ⊢ HN
                  rcases btf (K.testBit q) with g1 | g1
                  · rw [g1] at HN s1
                    rw [show ((true.toNat : Nat) : Int) = 1 from rfl] at HN s1
                    go_wp2
                    go_roundw
                    case rel => exact ⟨q+1, by omega, vint (by rw [HN.out]; simp), by go_num, by first | rfl | trivial⟩
                    case measure => simp [intOf]; omega
                  · rw [g1] at HN s1
                    rw [show ((false.toNat : Nat) : Int) = 0 from rfl] at HN s1
                    go_wp2
                    go_roundw
                    case rel => exact ⟨q+1, by omega, vint (by rw [HN.out]; simp), by go_num, by first | rfl | trivial⟩
                    case measure => simp [intOf]; omega
                · have hqe : q = k := by omega
                  subst hqe
                  clear hlq hq
                  have HOw : Hid (Own C.heap.size y2.val a1 c1 (tabL m (wdA m A (-1)))) := Lib.hid (by
                    rw [tabL_congr (A' := A) (fun j hj => by unfold wdA; rw [if_pos hj])]; exact HO1.out)
                  have HGw : Hid (Own C.heap.size y2.val a2 c2 (tabL m (wdA m G 0))) := Lib.hid (by
                    rw [tabL_congr (A' := G) (fun j hj => by unfold wdA; rw [if_pos hj])]; exact HG1.out)
                  have HT1 : Hid (∀ m1, m ≤ m1 → tabL (m1 + 1) (wdA m A (-1)) = tabL m1 (wdA m A (-1)) ++ [-1]) := Lib.hid (fun m1 h => by rw [tabL_snoc]; unfold wdA; rw [if_neg (by omega)])
                  have HT2 : Hid (∀ m1, m ≤ m1 → tabL (m1 + 1) (wdA m G 0) = tabL m1 (wdA m G 0) ++ [0]) := Lib.hid (fun m1 h => by rw [tabL_snoc]; unfold wdA; rw [if_neg (by omega)])
                  have hskE : sz K = sz K := rfl
                  have HTk : Hid (∀ m1, m ≤ m1 → sz K < m1 → (m1 = m ∨ m1 ≤ sz K + 1) → wdA m A (-1) (sz K) < 0 ∨ wdA m G 0 (sz K) < F K q → HvI X Y (fun t => F t q) m1 (fun j => if j = sz K then (K : Int) else wdA m A (-1) j) (fun j => if j = sz K then F K q else wdA m G 0 j) (K + 1)) := Lib.hid (fun m1 h1 h2 h3 h4 => HI.out.take HC.out h1 h2 h3 h4)
                  have HSy : Hid (∀ m1, m ≤ m1 → sz K < m1 → (m1 = m ∨ m1 ≤ sz K + 1) → 0 ≤ wdA m A (-1) (sz K) → F K q ≤ wdA m G 0 (sz K) → HvI X Y (fun t => F t q) m1 (wdA m A (-1)) (wdA m G 0) (K + 1)) := Lib.hid (fun m1 h1 h2 h3 h4 h5 => HI.out.stay HC.out h1 h2 h3 (by omega) (Int.not_lt.2 h5))
                  generalize wdA m A (-1) = A1 at *
                  generalize wdA m G 0 = G1 at *
                  generalize F K q = wt at *
                  generalize sz K = sk at *
                  clear hskE HO1 HG1 HI
                  go_wp2
                  go_loopw [13, 14] (fun ov bv wr => ∃ (m1 c1 c2 : Nat) (a1 a2 : Option Addr) (v : Later C.heap.size C), m ≤ m1 ∧ m1 ≤ 9 ∧ (m1 = m ∨ m1 ≤ sk + 1) ∧ ov = .slice a1 m1 c1 ∧ bv = .slice a2 m1 c2 ∧ wr = v.val ∧ Hid (Own C.heap.size v.val a1 c1 (tabL m1 A1)) ∧ Hid (Own C.heap.size v.val a2 c2 (tabL m1 G1)) ∧ Hid (Apart a1 a2)) (fun ov _ _ => 10 - lenM ov)
                  case atStart => exact ⟨m, c1, c2, a1, a2, y2, by omega, hm9, .inl rfl, rfl, rfl, rfl, HOw, HGw, HAp⟩
                  case round =>
                    clear HOw HGw HAp
                    obtain ⟨m1, c1, c2, a1, a2, v, hm1, hm19, hm1s, rfl, rfl, rfl, HO, HG, HAp⟩ := hrel
                    by_cases hlm : m1 ≤ sk
                    · have HU1 := Lib.hid (HT1.out m1 hm1)
                      have HU2 := Lib.hid (HT2.out m1 hm1)
                      have hz0 := v.size
                      clear HTk HSy HT1 HT2
                      go_upto_region 26 with fail
                      go_wp2_with (first | (at_builtin; refine wpList_push2 (B := C.heap.size) (W := C) (w := v.val) v.below hz0 rfl _ _ rfl (tabL m1 A1) m1 (tabL_len _ _) a1 c1 (-1) rfl HO.out rfl (by omega) ?_; intro u2 g2 cp2 ho1 hk1; have HO2 := Lib.hid ho1; have HK2 := Lib.hid (hk1 a2 c2 _ HG.out HAp.out); have hz2 := u2.size; clear ho1 hk1) | (at_builtin; refine wpList_push2 (B := C.heap.size) (W := C) (w := u2.val) u2.below hz2 rfl _ _ rfl (tabL m1 G1) m1 (tabL_len _ _) a2 c2 0 rfl HK2.out.1 rfl (by omega) ?_; intro u3 g3 cp3 ho3 hk3; have HG3 := Lib.hid ho3; have HK3 := Lib.hid (hk3 _ cp2 _ HO2.out HK2.out.2.symm); clear ho3 hk3) | fail)
                      go_roundw
                      case rel => exact ⟨m1 + 1, cp2, cp3, some ⟨g2, 0, none⟩, some ⟨g3, 0, none⟩, u3, by omega, by omega, .inr (by omega), by first | rfl | go_num, by first | rfl | go_num, by first | rfl | trivial, Lib.hid (by rw [HU1.out]; exact HK3.out.1), Lib.hid (by rw [HU2.out]; exact HG3.out), Lib.hid HK3.out.2.symm⟩
                      case measure => simp [lenM]; omega
                    · have hsk : sk < m1 := by omega
                      obtain ⟨g1, rfl⟩ := own_some HO.out (by intro e; have h2 : (tabL m1 A1).length = 0 := by { rw [e]; rfl }; rw [tabL_len] at h2; omega)
                      obtain ⟨g2, rfl⟩ := own_some HG.out (by intro e; have h2 : (tabL m1 G1).length = 0 := by { rw [e]; rfl }; rw [tabL_len] at h2; omega)
                      have hne : g1 ≠ g2 := HAp.out _ _ rfl rfl
                      have cA := HO.out.cellT hsk
                      have cG := HG.out.cellT hsk
                      have hb1 := HO.out.ltT
                      have hb2 := HG.out.ltT
                      have zA := HO.out.frozenT sk
                      have HA2 : Hid (Own C.heap.size (v.val.setCell ⟨g1, sk, none⟩ (.int .i64 K)) (some ⟨g1, 0, none⟩) c1 (tabL m1 (fun j => if j = sk then (K : Int) else A1 j))) := Lib.hid (HO.out.setT sk K (fun j _ => rfl))
                      have HG2 : Hid (Own C.heap.size (v.val.setCell ⟨g1, sk, none⟩ (.int .i64 K)) (some ⟨g2, 0, none⟩) c2 (tabL m1 G1)) := Lib.hid (HG.out.setO (fun x hx => by cases hx; exact hne) _)
                      have cG2 := HG2.out.cellT hsk
                      have zG2 := HG2.out.frozenT sk
                      have HG3 : Hid (Own C.heap.size ((v.val.setCell ⟨g1, sk, none⟩ (.int .i64 K)).setCell ⟨g2, sk, none⟩ (.int .i64 wt)) (some ⟨g2, 0, none⟩) c2 (tabL m1 (fun j => if j = sk then wt else G1 j))) := Lib.hid (HG2.out.setT sk wt (fun j _ => rfl))
                      have HA3 : Hid (Own C.heap.size ((v.val.setCell ⟨g1, sk, none⟩ (.int .i64 K)).setCell ⟨g2, sk, none⟩ (.int .i64 wt)) (some ⟨g1, 0, none⟩) c1 (tabL m1 (fun j => if j = sk then (K : Int) else A1 j))) := Lib.hid (HA2.out.setO (fun x hx => by cases hx; exact fun e => hne e.symm) _)
                      obtain ⟨v3, hv3⟩ : ∃ v3 : Later C.heap.size C, v3.val = (v.val.setCell ⟨g1, sk, none⟩ (.int .i64 K)).setCell ⟨g2, sk, none⟩ (.int .i64 wt) := ⟨(v.set ⟨g1, sk, none⟩ hb1.1 _).set ⟨g2, sk, none⟩ hb2.1 _, rfl⟩
                      rw [← hv3] at HG3 HA3
                      have HTk1 : Hid (A1 sk < 0 ∨ G1 sk < wt → HvI X Y (fun t => F t q) m1 (fun j => if j = sk then (K : Int) else A1 j) (fun j => if j = sk then wt else G1 j) (K + 1)) := Lib.hid (HTk.out m1 hm1 hsk hm1s)
                      have HSy1 : Hid (0 ≤ A1 sk → wt ≤ G1 sk → HvI X Y (fun t => F t q) m1 A1 G1 (K + 1)) := Lib.hid (HSy.out m1 hm1 hsk hm1s)
                      clear HTk HSy HT1 HT2 HA2 HG2
                      generalize (fun j => if j = sk then (K : Int) else A1 j) = A2 at *
                      generalize (fun j => if j = sk then wt else G1 j) = G2 at *
                      generalize hak : A1 sk = ak at *
                      generalize hgk : G1 sk = gk at *
                      clear hak hgk
                      rcases ilt ak 0 with ⟨e1, d1⟩ | ⟨e1, d1⟩
                      · have HN := Lib.hid (HTk1.out (.inl e1))
                        clear HTk1 HSy1 e1
                        go_wp2
                        go_roundw
                        case rel => exact ⟨K + 1, m1, c1, c2, A2, G2, some ⟨g1, 0, none⟩, some ⟨g2, 0, none⟩, v3, by omega, by omega, by go_num, by first | rfl | trivial, by first | rfl | trivial, by first | exact hv3.symm | rfl, HN, HA3, HG3, HAp⟩
                        case measure => simp [intOf]; omega
                      · rcases ilt gk wt with ⟨e2, d2⟩ | ⟨e2, d2⟩
                        · have HN := Lib.hid (HTk1.out (.inr e2))
                          clear HTk1 HSy1 e1 e2
                          go_wp2
                          go_roundw
                          case rel => exact ⟨K + 1, m1, c1, c2, A2, G2, some ⟨g1, 0, none⟩, some ⟨g2, 0, none⟩, v3, by omega, by omega, by go_num, by first | rfl | trivial, by first | rfl | trivial, by first | exact hv3.symm | rfl, HN, HA3, HG3, HAp⟩
                          case measure => simp [intOf]; omega
                        · have HN := Lib.hid (HSy1.out (by omega) (by omega))
                          clear HTk1 HSy1 e1 e2 hv3 HG3 HA3 v3 cG2 zG2
                          go_wp2
                          go_roundw
                          case rel => exact ⟨K + 1, m1, c1, c2, A1, G1, some ⟨g1, 0, none⟩, some ⟨g2, 0, none⟩, v, by omega, by omega, by go_num, by first | rfl | trivial, by first | rfl | trivial, by first | rfl | trivial, HN, HO, HG, HAp⟩
                          case measure => simp [intOf]; omega
            · have HN := HNo (fun h => absurd h.2 (by decide))
              clear HNo HD
              go_wp2_with (first | (go_at_call 26; (with_reducible refine (K2.out).mono ?_); rintro e _ ⟨rfl, z1, rfl⟩; have fxz := fx (z.up z1); have fyz := fy (z.up z1); dsimp only [Later.up, Later.to] at fxz fyz) | fail)
              go_roundw
              case rel => exact ⟨K + 1, m, c1, c2, A, G, a1, a2, z.up z1, by omega, hm9, by go_num, by first | rfl | trivial, by first | rfl | trivial, by first | rfl | trivial, HN, Lib.hid (HO.out.keep z1.below), Lib.hid (HG.out.keep z1.below), HAp⟩
              case measure => simp [intOf]; omega
          · have HN := HNo (fun h => absurd h.1 (by decide))
            clear HNo HD
            go_wp2_with (first | (go_at_call 26; (with_reducible refine (K2.out).mono ?_); rintro e _ ⟨rfl, z1, rfl⟩; have fxz := fx (z.up z1); have fyz := fy (z.up z1); dsimp only [Later.up, Later.to] at fxz fyz) | fail)
            go_roundw
            case rel => exact ⟨K + 1, m, c1, c2, A, G, a1, a2, z.up z1, by omega, hm9, by go_num, by first | rfl | trivial, by first | rfl | trivial, by first | rfl | trivial, HN, Lib.hid (HO.out.keep z1.below), Lib.hid (HG.out.keep z1.below), HAp⟩
            case measure => simp [intOf]; omega
        · have hKe : K = bit k := by omega
          subst hKe
          have HL : Hid (m = sz (setTo X Y (bit k)) + 1) := Lib.hid (HI.out.done HX.out.zero HY.out.zero)
          go_wp2
          go_ret2
          refine RetP.of (HVA.out z) ⟨a1, c1, m, A, rfl, HL.out, HI.out.best, ?_⟩
          have := Reads.of_own HO.out
          rwa [tabL_len] at this
end Go.Proofs.Ytenbeiafdiifgaa
