
/-
  values.Initial, Dual, Priced.
  values.Dual, Priced.
-/
import Derived.Test.YtmhjhdgaecdloaaVaI
import Derived.Test.YtmhjhdgaecdloaaVaJ
namespace Go.Proofs.Ytmhjhdgaecdloaa
open Go.RowKit
set_option linter.unusedVariables false

/-- of the first bases those that are worth this -/
def iniTo (L : List Nat) (F : Nat → Int) (x : Int) : Nat → List Int
  | 0 => []
  | k + 1 => if F (L.getD k 0) = x then iniTo L F x k ++ [((L.getD k 0 : Nat) : Int)] else iniTo L F x k
theorem iniTo_len (L : List Nat) (F : Nat → Int) (x : Int) : ∀ k, (iniTo L F x k).length ≤ k
  | 0 => Nat.le_refl _
  | k + 1 => by
    have := iniTo_len L F x k
    unfold iniTo
    split
    · rw [List.length_append, List.length_singleton]; omega
    · omega
/-- the first of these is the first of the greatest -/
theorem iniTo_first {L : List Nat} {F : Nat → Int} {x : Int} {q i : Nat} (h : IsTop (fun j => F (L.getD j 0)) q i x) : ∀ k, i < k → 0 < (iniTo L F x k).length ∧ (iniTo L F x k).getD 0 0 = ((L.getD i 0 : Nat) : Int) := by
  have hz : ∀ k, k ≤ i → iniTo L F x k = [] := by
    intro k
    induction k with
    | zero => intro _; rfl
    | succ k ih =>
      intro hk
      unfold iniTo
      have := h.first k (by omega)
      rw [if_neg (by omega), ih (by omega)]
  intro k
  induction k with
  | zero => intro hk; omega
  | succ k ih =>
    intro hk
    by_cases c : k = i
    · subst c
      unfold iniTo
      have he : F (L.getD k 0) = x := h.eq
      rw [if_pos he, hz k (Nat.le_refl _)]
      exact ⟨by simp, rfl⟩
    · obtain ⟨h1, h2⟩ := ih (by omega)
      unfold iniTo
      split
      · refine ⟨by rw [List.length_append]; omega, ?_⟩
        rw [← h2]
        simp [List.getElem?_append, h1]
      · exact ⟨h1, h2⟩

set_option maxRecDepth 100000 in
set_option maxHeartbeats 4000000 in
theorem c_initial_no {B : Nat} {W : World} (u : Later B W) (n : Int) (x y : Value) (b v e : Int) (h0 : e ≠ 0) (hB : ∀ (z : Later B W) (w : Later z.val.heap.size z.val), Calls Try.prog 5 #[.int .i64 n, x, y] w.val (Ret z.val.heap.size z.val (.tuple #[.int .i64 b, .int .i64 v, .int .i64 e]))) :
    Calls Try.prog 6 #[.int .i64 n, x, y] u.val (Ret B W (.tuple #[.agg #[.int .i64 0, .slice none 0 0], .int .i64 e])) := by
  have HR : Hid (RowL (u.val.alloc (.cells #[.int .i64 0, .slice none 0 0] 29)) u.val.heap.size 29 [.int .i64 0, .slice none 0 0]) := Lib.hid (RowL.new _ _ _)
  have K : Hid (Calls Try.prog 5 #[.int .i64 n, x, y] (u.val.alloc (.cells #[.int .i64 0, .slice none 0 0] 29)) (Ret (u.val.alloc (.cells #[.int .i64 0, .slice none 0 0] 29)).heap.size (u.val.alloc (.cells #[.int .i64 0, .slice none 0 0] 29)) (.tuple #[.int .i64 b, .int .i64 v, .int .i64 e]))) := Lib.hid (hB (u.alloc _) (Later.self _))
  have HV : Hid (∀ w : Later (u.val.alloc (.cells #[.int .i64 0, .slice none 0 0] 29)).heap.size (u.val.alloc (.cells #[.int .i64 0, .slice none 0 0] 29)), ∃ w' : Later B W, w'.val = w.val) := Lib.hid (fun w => ⟨(u.alloc _).up w, rfl⟩)
  have hus := u.size
  have d0 : (e != 0) = true := by rw [bne_iff_ne]; exact h0
  have hg : u.val.heap.size < (u.val.alloc (.cells #[.int .i64 0, .slice none 0 0] 29)).heap.size := HR.out.lt
  clear hB h0
  go_enter Try.func6, Try.ntmps6
  go_upto_region 1 with fail
  generalize (u.val.alloc (.cells #[.int .i64 0, .slice none 0 0] 29)) = W1 at *
  generalize u.val.heap.size = g at *
  have f0 : ∀ (w : Later W1.heap.size W1), w.val.cell? ⟨g, 0, none⟩ = some (.int .i64 0) := fun w => (HR.out.keep_at w.below hg).cell rfl
  have z0 : ∀ (w : Later W1.heap.size W1), w.val.frozen? ⟨g, 0, none⟩ = false := fun w => (HR.out.keep_at w.below hg).fz 0
  have f1 : ∀ (w : Later W1.heap.size W1) (x0 : Value), (w.val.setCell ⟨g, 0, none⟩ x0).cell? ⟨g, 1, none⟩ = some (.slice none 0 0) := fun w x0 => ((HR.out.keep_at w.below hg).set 0 x0).cell rfl
  have z1 : ∀ (w : Later W1.heap.size W1) (x0 : Value), (w.val.setCell ⟨g, 0, none⟩ x0).frozen? ⟨g, 1, none⟩ = false := fun w x0 => ((HR.out.keep_at w.below hg).set 0 x0).fz 1
  go_wp2_with (first | (go_at_call 5; (with_reducible refine (K.out).mono ?_); rintro e _ ⟨rfl, v1, rfl⟩))
  refine bodyPost_ret (results_row (vs := [.int .i64 0, .slice none 0 0]) rfl _ _ g rfl (((HR.out.keep_at v1.below hg).set 0 _).set 1 _) Try.underlying29 (by kernel_rfl)) rfl ?_
  exact Ret.of (later_set (later_set (HV.out v1) hus _) hus _) rfl

set_option maxRecDepth 100000 in
set_option maxHeartbeats 40000000 in
theorem c_initial {B : Nat} {W : World} (u : Later B W) (m : Nat) (hm : m ≤ 8) (vl : List (Int × Int)) (a : Option Addr) (cap : Nat) (h : EdgesAt B W a vl) (hlen : vl.length ≤ 17592186044416) (he : VlIs (m : Int) vl 0) (hok : VlOk (m : Int) vl) (hV : ExV (vlL vl) (valN vl)) (ws : List Int) (b : Option Addr) (capb : Nat) (hw : IntsAt B W b ws) (hwl : ws.length ≤ 4611686018427387904) (hp : PrcIs m ws 0) (it : Nat) (xt : Int) (htop : IsTop (fun j => wrth (valN vl) (fun i => ws.getD i 0) m ((vlL vl).getD j 0)) vl.length it xt) :
    Calls Try.prog 6 #[.int .i64 m, .slice a vl.length cap, .slice b ws.length capb] u.val (RetP B W (fun v w => ∃ ad cp, v = .tuple #[.agg #[.int .i64 m, .slice ad (iniTo (vlL vl) (wrth (valN vl) (fun i => ws.getD i 0) m) xt vl.length).length cp], .int .i64 0] ∧ IntsAt w.heap.size w ad (iniTo (vlL vl) (wrth (valN vl) (fun i => ws.getD i 0) m) xt vl.length))) := by
  have HR : Hid (RowL (u.val.alloc (.cells #[.int .i64 0, .slice none 0 0] 29)) u.val.heap.size 29 [.int .i64 0, .slice none 0 0]) := Lib.hid (RowL.new _ _ _)
  have KB := Lib.hid (c_best (Later.self (u.val.alloc (.cells #[.int .i64 0, .slice none 0 0] 29))) m hm vl a cap (h.to (u.alloc _)) hlen he hok hV ws b capb (hw.to (u.alloc _)) hwl hp it xt htop)
  dsimp only [Later.self] at KB
  have HV : Hid (∀ w : Later (u.val.alloc (.cells #[.int .i64 0, .slice none 0 0] 29)).heap.size (u.val.alloc (.cells #[.int .i64 0, .slice none 0 0] 29)), ∃ w' : Later B W, w'.val = w.val) := Lib.hid (fun w => ⟨(u.alloc _).up w, rfl⟩)
  have hus := u.size
  have hg : u.val.heap.size < (u.val.alloc (.cells #[.int .i64 0, .slice none 0 0] 29)).heap.size := HR.out.lt
  have HE : Hid (EdgesAt (u.val.alloc (.cells #[.int .i64 0, .slice none 0 0] 29)).heap.size (u.val.alloc (.cells #[.int .i64 0, .slice none 0 0] 29)) a vl) := Lib.hid (h.to (u.alloc _))
  have HW : Hid (IntsAt (u.val.alloc (.cells #[.int .i64 0, .slice none 0 0] 29)).heap.size (u.val.alloc (.cells #[.int .i64 0, .slice none 0 0] 29)) b ws) := Lib.hid (hw.to (u.alloc _))
  have h256 := hok.len256
  have HAt := Lib.hid (fun i (hi : i < vl.length) => hok.at_ hi)
  have KW : Hid (∀ (B : Nat) (W : World) (v : Later B W) (s : Nat), IntsAt B W b ws → s < 256 → Calls Try.prog 22 #[.agg #[.int .i64 s, .int .i64 (valN vl s)], .slice b ws.length capb] v.val (Ret B W (.int .i64 (wrth (valN vl) (fun i => ws.getD i 0) m s)))) := Lib.hid (fun B W v s hw hs => c_worth v m s (valN vl s) (hok.bd s).1 (hok.bd s).2 hm hs ws b capb hw hp)
  have HS : Hid (∀ k, iniTo (vlL vl) (wrth (valN vl) (fun i => ws.getD i 0) m) xt (k + 1) = if wrth (valN vl) (fun i => ws.getD i 0) m ((vlL vl).getD k 0) = xt then iniTo (vlL vl) (wrth (valN vl) (fun i => ws.getD i 0) m) xt k ++ [(((vlL vl).getD k 0 : Nat) : Int)] else iniTo (vlL vl) (wrth (valN vl) (fun i => ws.getD i 0) m) xt k) := Lib.hid (fun k => rfl)
  have HLn := Lib.hid (iniTo_len (vlL vl) (wrth (valN vl) (fun i => ws.getD i 0) m) xt)
  have H0 : Hid (iniTo (vlL vl) (wrth (valN vl) (fun i => ws.getD i 0) m) xt 0 = []) := Lib.hid rfl
  clear h hw he hok hV hp htop
  generalize iniTo (vlL vl) (wrth (valN vl) (fun i => ws.getD i 0) m) xt = T at *
  generalize wrth (valN vl) (fun i => ws.getD i 0) m = F at *
  generalize valN vl = N at *
  generalize vlL vl = L at *
  go_enter Try.func6, Try.ntmps6
  go_upto_region 1 with fail
  generalize (u.val.alloc (.cells #[.int .i64 0, .slice none 0 0] 29)) = W1 at *
  generalize u.val.heap.size = g at *
  clear u
  go_upto_region 4 with (first | (go_at_call 5; (with_reducible refine (KB.out).mono ?_); rintro e _ ⟨rfl, v1, rfl⟩))
  clear KB
  go_upto_region 5 with fail
  have HB2 : Hid (RowL (v1.val.alloc (.cells #[.int .i64 m, .slice none 0 0] 29)) v1.val.heap.size 29 [.int .i64 m, .slice none 0 0]) := Lib.hid (RowL.new _ _ _)
  have HR2 : Hid (RowL (v1.val.alloc (.cells #[.int .i64 m, .slice none 0 0] 29)) g 29 [.int .i64 0, .slice none 0 0]) := Lib.hid ((HR.out.keep_at v1.below hg).keep ((Below.refl _ _).alloc (Nat.le_refl _) _))
  obtain ⟨y, hy⟩ : ∃ y : Later W1.heap.size W1, y.val = (v1.val.alloc (.cells #[.int .i64 m, .slice none 0 0] 29)) := ⟨v1.alloc _, rfl⟩
  have hgb : g < v1.val.heap.size := Nat.lt_of_lt_of_le hg v1.size
  have hW1 : W1.heap.size ≤ v1.val.heap.size := v1.size
  rw [← hy] at HB2 HR2 ⊢
  clear hy HR
  generalize v1.val.heap.size = gb at *
  clear v1
  go_wp2
  go_loopw [30] (fun i wr => ∃ (k : Nat) (ad : Option Addr) (cp : Nat) (v : Later W1.heap.size W1), k ≤ vl.length ∧ i = .int .i64 k ∧ wr = v.val ∧ Hid (RowL v.val g 29 [.int .i64 0, .slice none 0 0]) ∧ Hid (RowL v.val gb 29 [.int .i64 m, .slice ad (T k).length cp]) ∧ Hid (Own (gb + 1) v.val ad cp (T k))) (fun i _ => vl.length - (intOf i).toNat)
  case atStart => exact ⟨0, none, 0, y, by omega, rfl, rfl, HR2, by rw [H0.out]; exact HB2, by rw [H0.out]; exact Own.nil _ _⟩
  case round =>
    clear y HR2 HB2
    obtain ⟨k, ad, cp, v, hk, rfl, rfl, HR, HB, HO⟩ := hrel
    by_cases hlt : k < vl.length
    · obtain ⟨eA1, eA2, _, hA8⟩ := HAt.out k hlt
      obtain ⟨be, off, rfl, hbe, hce⟩ := HE.out.at hlt
      have x0 := (hce v k hlt).1
      have x1 := (hce v k hlt).2
      rw [eA1] at x0
      rw [eA2] at x1
      have hTl := HLn.out k
      have HN := Lib.hid (HS.out k)
      clear hce eA1 eA2
      generalize L.getD k 0 = A at *
      have TZ : Two (v.val.alloc (.cells #[.int .i64 A, .int .i64 (N A)] 36)) v.val.heap.size 36 (.int .i64 A) (.int .i64 (N A)) := Two.new _ _ _ _
      have b0 : ∀ w : Later (v.val.alloc (.cells #[.int .i64 A, .int .i64 (N A)] 36)).heap.size (v.val.alloc (.cells #[.int .i64 A, .int .i64 (N A)] 36)), w.val.cell? ⟨v.val.heap.size, 0, none⟩ = some (.int .i64 A) := fun w => (TZ.keep w.below).c0
      have b1 := TZ.c1
      have b0' := TZ.c0
      have hgz : gb + 1 ≤ (v.val.alloc (.cells #[.int .i64 A, .int .i64 (N A)] 36)).heap.size := by have : gb < v.val.heap.size := HB.out.lt; simp; omega
      have HRz : Hid (∀ w : Later (gb + 1) (v.val.alloc (.cells #[.int .i64 A, .int .i64 (N A)] 36)), RowL w.val gb 29 [.int .i64 m, .slice ad (T k).length cp] ∧ RowL w.val g 29 [.int .i64 0, .slice none 0 0]) := Lib.hid (fun w => ⟨by
        show w.val.heap[gb]? = _
        rw [w.below.block gb (by omega)]; exact HB.out.keep ((Below.refl _ _).alloc (Nat.le_refl _) _), by
        show w.val.heap[g]? = _
        rw [w.below.block g (by omega)]; exact HR.out.keep ((Below.refl _ _).alloc (Nat.le_refl _) _)⟩)
      have HVz : Hid (∀ w : Later (gb + 1) (v.val.alloc (.cells #[.int .i64 A, .int .i64 (N A)] 36)), ∃ w' : Later W1.heap.size W1, w'.val = w.val) := Lib.hid (fun w => ⟨(v.alloc _).to w.val (w.below.mono (by omega)), rfl⟩)
      have HOz : Hid (∀ w : Later (v.val.alloc (.cells #[.int .i64 A, .int .i64 (N A)] 36)).heap.size (v.val.alloc (.cells #[.int .i64 A, .int .i64 (N A)] 36)), Own (gb + 1) w.val ad cp (T k)) := Lib.hid (fun w => (HO.out.alloc _).keep w.below)
      have KWz : Hid (Calls Try.prog 22 #[.agg #[.int .i64 A, .int .i64 (N A)], .slice b ws.length capb] (v.val.alloc (.cells #[.int .i64 A, .int .i64 (N A)] 36)) (Ret (v.val.alloc (.cells #[.int .i64 A, .int .i64 (N A)] 36)).heap.size (v.val.alloc (.cells #[.int .i64 A, .int .i64 (N A)] 36)) (.int .i64 (F A)))) := Lib.hid (KW.out _ _ (Later.self (v.val.alloc (.cells #[.int .i64 A, .int .i64 (N A)] 36))) A ((HW.out.to v).to ((Later.self v.val).alloc _)) hA8)
      go_upto_region 8 with fail
      clear TZ x0 x1
      generalize v.val.heap.size = gz at *
      have HZs : Hid ((v.val.alloc (.cells #[.int .i64 A, .int .i64 (N A)] 36)).heap.size ≤ (v.val.alloc (.cells #[.int .i64 A, .int .i64 (N A)] 36)).heap.size) := Lib.hid (Nat.le_refl _)
      generalize (v.val.alloc (.cells #[.int .i64 A, .int .i64 (N A)] 36)) = Z at *
      by_cases hF : F A = xt
      · have d1 : (F A == xt) = true := beq_iff_eq.2 hF
        have HT2 : Hid (T (k + 1) = T k ++ [(A : Int)]) := Lib.hid (by rw [HN.out, if_pos hF])
        clear HN hF
        go_upto_region 9 with (first | (go_at_call 22; (with_reducible refine (KWz.out).mono ?_); rintro e _ ⟨rfl, z, rfl⟩))
        have HO2 : Hid (Own (gb + 1) z.val ad cp (T k)) := Lib.hid (HOz.out z)
        have b0z := b0 z
        obtain ⟨z2, hz2⟩ : ∃ z2 : Later (gb + 1) Z, z2.val = z.val := ⟨⟨z.val, z.below.mono hgz, Nat.le_trans hgz z.size⟩, rfl⟩
        have d2 : z.val.cell? ⟨gb, 1, none⟩ = some (.slice ad (T k).length cp) := by rw [← hz2]; exact (HRz.out z2).1.cell rfl
        have hzs : gb + 1 ≤ z.val.heap.size := Nat.le_trans hgz z.size
        have HU : Hid (∀ w : Later (gb + 1) z.val, RowL w.val gb 29 [.int .i64 m, .slice ad (T k).length cp] ∧ RowL w.val g 29 [.int .i64 0, .slice none 0 0]) := Lib.hid (fun w => HRz.out ⟨w.val, (z.below.mono hgz).trans w.below, w.size⟩)
        have HVw : Hid (∀ w : Later (gb + 1) z.val, ∃ w' : Later W1.heap.size W1, w'.val = w.val) := Lib.hid (fun w => HVz.out ⟨w.val, (z.below.mono hgz).trans w.below, w.size⟩)
        have d3 : ∀ w : Later (gb + 1) z.val, w.val.cell? ⟨gb, 1, none⟩ = some (.slice ad (T k).length cp) := fun w => (HU.out w).1.cell rfl
        have d4 : ∀ w : Later (gb + 1) z.val, w.val.frozen? ⟨gb, 1, none⟩ = false := fun w => (HU.out w).1.fz 1
        clear hz2 z2
        generalize hTT : T k = Tk at *
        go_wp2_with (first | (at_builtin; refine wpList_push (B := gb + 1) (W := z.val) (w := z.val) (Below.refl _ _) hzs rfl _ _ rfl Tk ad cp (A : Int) rfl HO2.out rfl (by omega) ?_; intro u2 ad3 cp3 hown))
        have HU2 := Lib.hid (HU.out u2)
        have HVu := Lib.hid (HVw.out u2)
        go_roundw
        case rel =>
          obtain ⟨w, hw⟩ := later_set HVu.out (g := gb) (i := 1) hW1 (.slice ad3 (Tk ++ [(A : Int)]).length cp3)
          refine ⟨k+1, ad3, cp3, w, by omega, by go_num, ?_, ?_, ?_, ?_⟩
          · rw [hw]; simp
          · rw [hw]
            exact Lib.hid (by
              show (World.setCell _ _ _).heap[g]? = _
              rw [Below.heap_setCell _ _ _ _ (by show g ≠ gb; omega)]; exact HU2.out.2)
          · rw [HT2.out, hw]; exact Lib.hid (HU2.out.1.set 1 _)
          · rw [HT2.out, hw]; exact Lib.hid (hown.set (by omega) _)
        case measure => simp [intOf]; omega
      · have d1 : (F A == xt) = false := beq_eq_false_iff_ne.2 hF
        have HT2 : Hid (T (k + 1) = T k) := Lib.hid (by rw [HN.out, if_neg hF])
        clear HN hF
        go_wp2_with (first | (go_at_call 22; (with_reducible refine (KWz.out).mono ?_); rintro e _ ⟨rfl, z, rfl⟩))
        go_roundw
        case rel =>
          obtain ⟨z2, hz2⟩ : ∃ z2 : Later (gb + 1) Z, z2.val = z.val := ⟨⟨z.val, z.below.mono hgz, Nat.le_trans hgz z.size⟩, rfl⟩
          obtain ⟨w, hw⟩ := HVz.out z2
          have hr := HRz.out z2
          rw [hz2] at hw hr
          exact ⟨k+1, ad, cp, w, by omega, by go_num, hw.symm, by rw [hw]; exact Lib.hid hr.2, by rw [HT2.out, hw]; exact Lib.hid hr.1, by rw [HT2.out, hw]; exact HOz.out z⟩
        case measure => simp [intOf]; omega
    · have hke : k = vl.length := by omega
      subst hke
      have c1 : v.val.cell? ⟨gb, 1, none⟩ = some (.slice ad (T vl.length).length cp) := HB.out.cell rfl
      have c0 : v.val.cell? ⟨gb, 0, none⟩ = some (.int .i64 m) := HB.out.cell rfl
      have hgv : g < v.val.heap.size := HR.out.lt
      have f0 : ∀ (w : Later v.val.heap.size v.val), w.val.cell? ⟨g, 0, none⟩ = some (.int .i64 0) := fun w => (HR.out.keep_at w.below hgv).cell rfl
      have z0 : ∀ (w : Later v.val.heap.size v.val), w.val.frozen? ⟨g, 0, none⟩ = false := fun w => (HR.out.keep_at w.below hgv).fz 0
      have f1 : ∀ (w : Later v.val.heap.size v.val) (x0 : Value), (w.val.setCell ⟨g, 0, none⟩ x0).cell? ⟨g, 1, none⟩ = some (.slice none 0 0) := fun w x0 => ((HR.out.keep_at w.below hgv).set 0 x0).cell rfl
      have z1 : ∀ (w : Later v.val.heap.size v.val) (x0 : Value), (w.val.setCell ⟨g, 0, none⟩ x0).frozen? ⟨g, 1, none⟩ = false := fun w x0 => ((HR.out.keep_at w.below hgv).set 0 x0).fz 1
      have z0v := z0 (Later.self v.val)
      have f0v := f0 (Later.self v.val)
      have z1v := z1 (Later.self v.val)
      have f1v := f1 (Later.self v.val)
      dsimp only [Later.self] at z0v f0v z1v f1v
      have HX : Hid (∃ w : Later B W, w.val = v.val) := Lib.hid (HV.out v)
      clear HB
      go_wp2
      refine bodyPost_ret (results_row (vs := [.int .i64 m, .slice ad (T vl.length).length cp]) rfl _ _ g rfl ((HR.out.set 0 _).set 1 _) Try.underlying29 (by kernel_rfl)) rfl ?_
      exact RetP.of (later_set (later_set HX.out (by omega) _) (by omega) _) ⟨ad, cp, rfl, (((HO.out).set (g := g) (i := 0) (by omega) (.int .i64 m)).set (g := g) (i := 1) (by omega) (.slice ad (T vl.length).length cp)).reads⟩

/-- the first pairs of a kind -/
def pairsTo (f : Nat → Int × Int) (k : Nat) : List (Int × Int) := (List.range k).map f
theorem pairsTo_len (f : Nat → Int × Int) (k : Nat) : (pairsTo f k).length = k := by simp [pairsTo]
theorem pairsTo_step (f : Nat → Int × Int) (k : Nat) : pairsTo f (k + 1) = pairsTo f k ++ [f k] := by simp [pairsTo, List.range_succ]
theorem pairsTo_getD (f : Nat → Int × Int) {k i : Nat} (h : i < k) : (pairsTo f k).getD i (0, 0) = f i := by simp [pairsTo, h]

set_option maxRecDepth 100000 in
set_option maxHeartbeats 4000000 in
theorem c_dual_no {B : Nat} {W : World} (u : Later B W) (n : Int) (vl : List (Int × Int)) (a : Option Addr) (cap : Nat) (h : EdgesAt B W a vl) (hlen : vl.length ≤ 17592186044416) (e : Int) (he : VlIs n vl e) (h0 : e ≠ 0) :
    Calls Try.prog 7 #[.int .i64 n, .slice a vl.length cap] u.val (Ret B W (.tuple #[.slice none 0 0, .int .i64 e])) := by
  have K := Lib.hid (c_valCheck u n vl a cap h hlen e he)
  have d0 : (e != 0) = true := by rw [bne_iff_ne]; exact h0
  clear h he h0
  go_enter Try.func7, Try.ntmps7
  go_wp2_with (first | (go_at_call 9; (with_reducible refine (K.out).mono ?_); rintro e _ ⟨rfl, v1, rfl⟩))
  go_ret2
  exact Ret.mk v1 rfl

set_option maxRecDepth 100000 in
set_option maxHeartbeats 40000000 in
theorem c_dual {B : Nat} {W : World} (u : Later B W) (m : Nat) (hm : m ≤ 8) (vl : List (Int × Int)) (a : Option Addr) (cap : Nat) (h : EdgesAt B W a vl) (hlen : vl.length ≤ 17592186044416) (he : VlIs (m : Int) vl 0) (hok : VlOk (m : Int) vl) :
    Calls Try.prog 7 #[.int .i64 m, .slice a vl.length cap] u.val (RetP B W (fun v w => ∃ ad cp, v = .tuple #[.slice ad vl.length cp, .int .i64 0] ∧ EdgesAt w.heap.size w ad (pairsTo (fun t => (((nand (bit m - 1) ((vlL vl).getD (vl.length - 1 - t) 0) : Nat) : Int), valN vl ((vlL vl).getD (vl.length - 1 - t) 0))) vl.length))) := by
  have K := Lib.hid (c_valCheck u (m : Int) vl a cap h hlen 0 he)
  have HE := Lib.hid h
  have hb := bit_le m hm
  have bc := bit_cast m
  have h256 := hok.len256
  have w1 : IntKind.i64.wrap (bit m : Int) = (bit m : Int) := IntWalk.i64_in _ (by omega)
  have w2 : IntKind.i64.wrap ((bit m : Int) - 1) = ((bit m - 1 : Nat) : Int) := by rw [IntWalk.i64_in _ (by omega)]; omega
  have HAt := Lib.hid (fun i (hi : i < vl.length) => hok.at_ hi)
  clear h he hok
  generalize valN vl = N at *
  generalize vlL vl = L at *
  have HLn := Lib.hid (pairsTo_len (fun t => (((nand (bit m - 1) (L.getD (vl.length - 1 - t) 0) : Nat) : Int), N (L.getD (vl.length - 1 - t) 0))))
  have HS := Lib.hid (pairsTo_step (fun t => (((nand (bit m - 1) (L.getD (vl.length - 1 - t) 0) : Nat) : Int), N (L.getD (vl.length - 1 - t) 0))))
  have H0 : Hid (pairsTo (fun t => (((nand (bit m - 1) (L.getD (vl.length - 1 - t) 0) : Nat) : Int), N (L.getD (vl.length - 1 - t) 0))) 0 = []) := Lib.hid rfl
  have HPt : Hid (∀ k, (fun t => (((nand (bit m - 1) (L.getD (vl.length - 1 - t) 0) : Nat) : Int), N (L.getD (vl.length - 1 - t) 0))) k = (((nand (bit m - 1) (L.getD (vl.length - 1 - k) 0) : Nat) : Int), N (L.getD (vl.length - 1 - k) 0))) := Lib.hid (fun k => rfl)
  generalize (fun t => (((nand (bit m - 1) (L.getD (vl.length - 1 - t) 0) : Nat) : Int), N (L.getD (vl.length - 1 - t) 0))) = f at *
  go_enter Try.func7, Try.ntmps7
  go_upto_region 6 with (first | (go_at_call 9; (with_reducible refine (K.out).mono ?_); rintro e _ ⟨rfl, v1, rfl⟩))
  clear K u
  go_loopw [7, 8] (fun o i wr => ∃ (k : Nat) (ad : Option Addr) (cp : Nat) (v : Later B W), k ≤ vl.length ∧ i = .int .i64 ((vl.length : Int) - 1 - (k : Int)) ∧ o = .slice ad (pairsTo f k).length cp ∧ wr = v.val ∧ Hid (OwnE B v.val ad cp (pairsTo f k))) (fun _ i _ => (intOf i + 1).toNat)
  case atStart => exact ⟨0, none, 0, v1, by omega, vint (by omega), by rw [H0.out]; rfl, rfl, by rw [H0.out]; exact OwnE.nil _ _⟩
  case round =>
    clear v1
    obtain ⟨k, ad, cp, v, hk, rfl, rfl, rfl, HO⟩ := hrel
    by_cases hlt : k < vl.length
    · obtain ⟨q, hq⟩ : ∃ q : Nat, vl.length - 1 - k = q := ⟨_, rfl⟩
      have hqz : (vl.length : Int) - 1 - (k : Int) = (q : Int) := by omega
      have hql : q < vl.length := by omega
      rw [hqz]
      obtain ⟨eA1, eA2, _, hA8⟩ := HAt.out q hql
      obtain ⟨be, off, rfl, hbe, hce⟩ := HE.out.at hql
      have x0 : v.val.drew.cell? ⟨be, off + q * 2, none⟩ = some (.int .i64 (vl.getD q (0, 0)).1) := (hce v.drew q hql).1
      have x1 : v.val.drew.cell? ⟨be, off + q * 2 + 1, none⟩ = some (.int .i64 (vl.getD q (0, 0)).2) := (hce v.drew q hql).2
      have x2 : v.val.cell? ⟨be, off + q * 2, none⟩ = some (.int .i64 (vl.getD q (0, 0)).1) := (hce v q hql).1
      have x3 : v.val.cell? ⟨be, off + q * 2 + 1, none⟩ = some (.int .i64 (vl.getD q (0, 0)).2) := (hce v q hql).2
      rw [eA1] at x0 x2
      rw [eA2] at x1 x3
      have HN := Lib.hid (HS.out k)
      rw [hq] at HN
      have hTl : (pairsTo f k).length + 1 ≤ 1099511627776 := by rw [HLn.out]; omega
      have HMs : Hid ((q : Int) - 1 = (vl.length : Int) - 1 - ((k + 1 : Nat) : Int)) := Lib.hid (by omega)
      clear hce eA1 eA2 hq hqz
      generalize L.getD q 0 = A at *
      have o1 := i64_andNot (bit m - 1) A (by omega) (by omega)
      have HO2 : Hid (OwnE B v.val.drew ad cp (pairsTo f k)) := Lib.hid (HO.out.keep ((Below.refl _ _).drew))
      have hvs : B ≤ v.val.drew.heap.size := v.size
      generalize pairsTo f k = T at *
      generalize nand (bit m - 1) A = z at *
      generalize N A = na at *
      go_upto_region 8 with fail
      go_region_law (first | ((refine step_pushE (B := B) (W := W) (w := v.val.drew) v.drew.below hvs (by rfl) _ _ (by rfl) T ad cp (z : Int) na (by rfl) HO2.out (by rfl) hTl ?_; intro u2 ad3 cp3 hown)))
      all_goals
        go_wp2
        go_roundw
        case rel =>
          refine ⟨k+1, ad3, cp3, u2, by omega, ?_, ?_, rfl, ?_⟩
          · first | (rw [← HMs.out]; done) | (rw [← HMs.out]; go_num)
          · rw [HN.out]; simp
          · rw [HN.out]; exact hown
        case measure => first | (simp [intOf]; done) | (simp [intOf]; omega)
    · have hke : k = vl.length := by omega
      subst hke
      have hz : (vl.length : Int) - 1 - (vl.length : Int) = -1 := by omega
      rw [hz]
      have HX := Lib.hid HO.out.reads
      have HL := Lib.hid (HLn.out vl.length)
      go_wp2
      go_ret2
      exact RetP.mk v ⟨ad, cp, by rw [HL.out]; rfl, HX.out⟩

set_option maxRecDepth 100000 in
set_option maxHeartbeats 4000000 in
theorem c_priced_no {B : Nat} {W : World} (u : Later B W) (n : Int) (vl : List (Int × Int)) (a : Option Addr) (cap : Nat) (h : EdgesAt B W a vl) (hlen : vl.length ≤ 17592186044416) (e : Int) (he : VlIs n vl e) (h0 : e ≠ 0) (x : Value) :
    Calls Try.prog 8 #[.int .i64 n, .slice a vl.length cap, x] u.val (Ret B W (.tuple #[.slice none 0 0, .int .i64 e])) := by
  have K := Lib.hid (c_valCheck u n vl a cap h hlen e he)
  have d0 : (e != 0) = true := by rw [bne_iff_ne]; exact h0
  clear h he h0
  go_enter Try.func8, Try.ntmps8
  go_wp2_with (first | (go_at_call 9; (with_reducible refine (K.out).mono ?_); rintro e _ ⟨rfl, v1, rfl⟩))
  go_ret2
  exact Ret.mk v1 rfl

set_option maxRecDepth 100000 in
set_option maxHeartbeats 4000000 in
theorem c_priced_pr {B : Nat} {W : World} (u : Later B W) (m : Nat) (hm : m ≤ 8) (vl : List (Int × Int)) (a : Option Addr) (cap : Nat) (h : EdgesAt B W a vl) (hlen : vl.length ≤ 17592186044416) (he : VlIs (m : Int) vl 0) (ws : List Int) (b : Option Addr) (capb : Nat) (hw : IntsAt B W b ws) (hwl : ws.length ≤ 4611686018427387904) (pe : Int) (hp : PrcIs m ws pe) (h0 : pe ≠ 0) :
    Calls Try.prog 8 #[.int .i64 m, .slice a vl.length cap, .slice b ws.length capb] u.val (Ret B W (.tuple #[.slice none 0 0, .int .i64 pe])) := by
  have K := Lib.hid (c_valCheck u (m : Int) vl a cap h hlen 0 he)
  have KP := Lib.hid (fun v : Later B W => c_prices v m ws b capb pe hw hwl hm hp)
  have d0 : (pe != 0) = true := by rw [bne_iff_ne]; exact h0
  clear h he h0 hw hp
  go_enter Try.func8, Try.ntmps8
  go_wp2_with (first | (go_at_call 9; (with_reducible refine (K.out).mono ?_); rintro e _ ⟨rfl, v1, rfl⟩) | (go_at_call 20; (with_reducible refine (KP.out _).mono ?_); rintro e _ ⟨rfl, v2, rfl⟩))
  go_ret2
  exact Ret.mk v2 rfl

/-- are the first ones' worths in bounds? -/
def inTo (F : Nat → Int) (L : List Nat) (k : Nat) : Prop := ∀ i, i < k → -1000 ≤ F (L.getD i 0) ∧ F (L.getD i 0) ≤ 1000
instance (F L k) : Decidable (inTo F L k) := by unfold inTo; infer_instance
def prcL (F : Nat → Int) (L : List Nat) (q : Nat) : List (Int × Int) := if inTo F L q then pairsTo (fun t => (((L.getD t 0 : Nat) : Int), F (L.getD t 0))) q else []
def prcE (F : Nat → Int) (L : List Nat) (q : Nat) : Int := if inTo F L q then 0 else 2

set_option maxRecDepth 100000 in
set_option maxHeartbeats 40000000 in
theorem c_priced {B : Nat} {W : World} (u : Later B W) (m : Nat) (hm : m ≤ 8) (vl : List (Int × Int)) (a : Option Addr) (cap : Nat) (h : EdgesAt B W a vl) (hlen : vl.length ≤ 17592186044416) (he : VlIs (m : Int) vl 0) (hok : VlOk (m : Int) vl) (ws : List Int) (b : Option Addr) (capb : Nat) (hw : IntsAt B W b ws) (hwl : ws.length ≤ 4611686018427387904) (hp : PrcIs m ws 0) :
    Calls Try.prog 8 #[.int .i64 m, .slice a vl.length cap, .slice b ws.length capb] u.val (RetP B W (fun v w => ∃ ad cp, v = .tuple #[.slice ad (prcL (wrth (valN vl) (fun i => ws.getD i 0) m) (vlL vl) vl.length).length cp, .int .i64 (prcE (wrth (valN vl) (fun i => ws.getD i 0) m) (vlL vl) vl.length)] ∧ EdgesAt w.heap.size w ad (prcL (wrth (valN vl) (fun i => ws.getD i 0) m) (vlL vl) vl.length))) := by
  have K := Lib.hid (c_valCheck u (m : Int) vl a cap h hlen 0 he)
  have KP := Lib.hid (fun v : Later B W => c_prices v m ws b capb 0 hw hwl hm hp)
  have HE := Lib.hid h
  have HW := Lib.hid hw
  have h256 := hok.len256
  have HAt := Lib.hid (fun i (hi : i < vl.length) => hok.at_ hi)
  have KW : Hid (∀ (B : Nat) (W : World) (v : Later B W) (s : Nat), IntsAt B W b ws → s < 256 → Calls Try.prog 22 #[.agg #[.int .i64 s, .int .i64 (valN vl s)], .slice b ws.length capb] v.val (Ret B W (.int .i64 (wrth (valN vl) (fun i => ws.getD i 0) m s)))) := Lib.hid (fun B W v s hw hs => c_worth v m s (valN vl s) (hok.bd s).1 (hok.bd s).2 hm hs ws b capb hw hp)
  clear h hw he hok hp
  generalize wrth (valN vl) (fun i => ws.getD i 0) m = F at *
  generalize valN vl = N at *
  generalize vlL vl = L at *
  have HY : Hid (inTo F L vl.length → prcL F L vl.length = pairsTo (fun t => (((L.getD t 0 : Nat) : Int), F (L.getD t 0))) vl.length ∧ prcE F L vl.length = 0) := Lib.hid (fun c => by unfold prcL prcE; rw [if_pos c, if_pos c]; exact ⟨rfl, rfl⟩)
  have HNo : Hid (¬ inTo F L vl.length → prcL F L vl.length = [] ∧ prcE F L vl.length = 2) := Lib.hid (fun c => by unfold prcL prcE; rw [if_neg c, if_neg c]; exact ⟨rfl, rfl⟩)
  generalize prcL F L vl.length = R at *
  generalize prcE F L vl.length = re at *
  have HLn := Lib.hid (pairsTo_len (fun t => (((L.getD t 0 : Nat) : Int), F (L.getD t 0))))
  have HS := Lib.hid (pairsTo_step (fun t => (((L.getD t 0 : Nat) : Int), F (L.getD t 0))))
  have H0 : Hid (pairsTo (fun t => (((L.getD t 0 : Nat) : Int), F (L.getD t 0))) 0 = []) := Lib.hid rfl
  have HPt : Hid (∀ k, (fun t => (((L.getD t 0 : Nat) : Int), F (L.getD t 0))) k = (((L.getD k 0 : Nat) : Int), F (L.getD k 0))) := Lib.hid (fun k => rfl)
  generalize (fun t => (((L.getD t 0 : Nat) : Int), F (L.getD t 0))) = f at *
  go_enter Try.func8, Try.ntmps8
  go_upto_region 8 with (first | (go_at_call 9; (with_reducible refine (K.out).mono ?_); rintro e _ ⟨rfl, v1, rfl⟩) | (go_at_call 20; (with_reducible refine (KP.out _).mono ?_); rintro e _ ⟨rfl, v2, rfl⟩))
  clear K KP u v1
  go_wp2
  go_loopw [10, 28] (fun o i wr => ∃ (k : Nat) (ad : Option Addr) (cp : Nat) (v : Later B W), k ≤ vl.length ∧ i = .int .i64 k ∧ o = .slice ad (pairsTo f k).length cp ∧ wr = v.val ∧ Hid (OwnE B v.val ad cp (pairsTo f k)) ∧ Hid (inTo F L k)) (fun _ i _ => vl.length - (intOf i).toNat)
  case atStart => exact ⟨0, none, 0, v2, by omega, rfl, by rw [H0.out]; rfl, rfl, by rw [H0.out]; exact OwnE.nil _ _, Lib.hid (fun i hi => by omega)⟩
  case round =>
    clear v2
    obtain ⟨k, ad, cp, v, hk, rfl, rfl, rfl, HO, hf⟩ := hrel
    by_cases hlt : k < vl.length
    · obtain ⟨eA1, eA2, _, hA8⟩ := HAt.out k hlt
      obtain ⟨be, off, rfl, hbe, hce⟩ := HE.out.at hlt
      have x0 := (hce v k hlt).1
      have x1 := (hce v k hlt).2
      rw [eA1] at x0
      rw [eA2] at x1
      have HN := Lib.hid (HS.out k)
      have hTl : (pairsTo f k).length + 1 ≤ 1099511627776 := by rw [HLn.out]; omega
      have HIn : Hid (-1000 ≤ F (L.getD k 0) ∧ F (L.getD k 0) ≤ 1000 → inTo F L (k + 1)) := Lib.hid (fun c i hi => by
        by_cases e : i = k
        · subst e; exact c
        · exact hf.out i (by omega))
      have HOut : Hid (¬ (-1000 ≤ F (L.getD k 0) ∧ F (L.getD k 0) ≤ 1000) → ¬ inTo F L vl.length) := Lib.hid (fun c d => c (d k hlt))
      clear hce eA1 eA2 hf
      generalize L.getD k 0 = A at *
      have TZ : Two (v.val.alloc (.cells #[.int .i64 A, .int .i64 (N A)] 36)) v.val.heap.size 36 (.int .i64 A) (.int .i64 (N A)) := Two.new _ _ _ _
      have b0 : ∀ w : Later (v.val.alloc (.cells #[.int .i64 A, .int .i64 (N A)] 36)).heap.size (v.val.alloc (.cells #[.int .i64 A, .int .i64 (N A)] 36)), w.val.cell? ⟨v.val.heap.size, 0, none⟩ = some (.int .i64 A) := fun w => (TZ.keep w.below).c0
      have b1 := TZ.c1
      have b0' := TZ.c0
      have HOz : Hid (∀ w : Later (v.val.alloc (.cells #[.int .i64 A, .int .i64 (N A)] 36)).heap.size (v.val.alloc (.cells #[.int .i64 A, .int .i64 (N A)] 36)), OwnE B w.val ad cp (pairsTo f k)) := Lib.hid (fun w => (HO.out.alloc _).keep w.below)
      have HVz : Hid (∀ w : Later (v.val.alloc (.cells #[.int .i64 A, .int .i64 (N A)] 36)).heap.size (v.val.alloc (.cells #[.int .i64 A, .int .i64 (N A)] 36)), ∃ w' : Later B W, w'.val = w.val) := Lib.hid (fun w => ⟨(v.alloc _).up w, rfl⟩)
      have KWz : Hid (Calls Try.prog 22 #[.agg #[.int .i64 A, .int .i64 (N A)], .slice b ws.length capb] (v.val.alloc (.cells #[.int .i64 A, .int .i64 (N A)] 36)) (Ret (v.val.alloc (.cells #[.int .i64 A, .int .i64 (N A)] 36)).heap.size (v.val.alloc (.cells #[.int .i64 A, .int .i64 (N A)] 36)) (.int .i64 (F A)))) := Lib.hid (KW.out _ _ (Later.self (v.val.alloc (.cells #[.int .i64 A, .int .i64 (N A)] 36))) A ((HW.out.to v).to ((Later.self v.val).alloc _)) hA8)
      go_upto_region 11 with fail
      clear TZ x0 x1
      generalize v.val.heap.size = gz at *
      generalize (v.val.alloc (.cells #[.int .i64 A, .int .i64 (N A)] 36)) = Z at *
      generalize F A = fa at *
      generalize pairsTo f k = T at *
      rcases ilt fa (-1000) with ⟨g1, p1⟩ | ⟨g1, p1⟩
      · have HX := Lib.hid (HNo.out (HOut.out (by omega)))
        clear HOut HIn g1 HN HO
        go_wp2_with (first | (go_at_call 22; (with_reducible refine (KWz.out).mono ?_); rintro e _ ⟨rfl, z, rfl⟩))
        go_ret2
        exact RetP.of (HVz.out z) ⟨none, 0, by rw [HX.out.1, HX.out.2]; rfl, by rw [HX.out.1]; exact fun h => absurd rfl h⟩
      · rcases ilt 1000 fa with ⟨g2, p2⟩ | ⟨g2, p2⟩
        · have HX := Lib.hid (HNo.out (HOut.out (by omega)))
          clear HOut HIn g1 g2 HN HO
          go_wp2_with (first | (go_at_call 22; (with_reducible refine (KWz.out).mono ?_); rintro e _ ⟨rfl, z, rfl⟩))
          go_ret2
          exact RetP.of (HVz.out z) ⟨none, 0, by rw [HX.out.1, HX.out.2]; rfl, by rw [HX.out.1]; exact fun h => absurd rfl h⟩
        · have HI := Lib.hid (HIn.out (by omega))
          clear HOut HIn g1 g2
          go_upto_region 14 with (first | (go_at_call 22; (with_reducible refine (KWz.out).mono ?_); rintro e _ ⟨rfl, z, rfl⟩))
          have b0z := b0 z
          obtain ⟨z2, hz2⟩ := HVz.out z
          have HO2 : Hid (OwnE B z2.val ad cp T) := Lib.hid (by rw [hz2]; exact HOz.out z)
          rw [← hz2] at b0z ⊢
          clear hz2 KWz HOz HVz b0 b1 b0' z HO
          go_wp2_with (first | (at_builtin; refine wpList_pushE (B := B) (W := W) (w := z2.val) z2.below z2.size rfl _ _ rfl T ad cp (A : Int) fa rfl HO2.out rfl hTl ?_; intro u2 ad3 cp3 hown))
          go_roundw
          case rel =>
            refine ⟨k+1, ad3, cp3, u2, by omega, by go_num, ?_, rfl, ?_, HI⟩
            · rw [HN.out]; simp
            · rw [HN.out]; exact hown
          case measure => simp [intOf]; omega
    · have hke : k = vl.length := by omega
      subst hke
      have HX := Lib.hid (HY.out hf.out)
      have HO2 := Lib.hid HO.out.reads
      clear HO
      go_wp2
      go_ret2
      exact RetP.mk v ⟨ad, cp, by rw [HX.out.1, HX.out.2]; rfl, by rw [HX.out.1]; exact HO2.out⟩

end Go.Proofs.Ytmhjhdgaecdloaa
