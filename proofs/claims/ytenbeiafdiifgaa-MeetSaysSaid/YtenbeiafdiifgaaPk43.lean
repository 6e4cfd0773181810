
/-
  meet.size, meet.grown$1, meet.grown.
-/
import Derived.Test.YtenbeiafdiifgaaPk06
import Derived.Test.YtenbeiafdiifgaaPk07
import Derived.Test.YtenbeiafdiifgaaPk08
import Derived.Test.YtenbeiafdiifgaaPk09
import Derived.Deep.CutRange
import Derived.OwnWalk
namespace Go.Proofs.Ytenbeiafdiifgaa
open Go.RowKit
set_option linter.unusedVariables false

theorem c_mtSize {B : Nat} {W : World} (u : Later B W) (s : Nat) (hs : s < 256) : Calls Try.prog 26 #[.int .i64 s] u.val (Ret B W (.int .i64 (sz s))) := by
  have K := Lib.hid (c_ones u s hs)
  go_enter Try.func26, Try.ntmps26
  go_wp2_with (first | (go_at_call 36; refine K.out.mono ?_; rintro e _ ⟨rfl, v, rfl⟩))
  go_ret
  exact Ret.mk v rfl
set_option maxRecDepth 100000 in
set_option maxHeartbeats 4000000 in
theorem c_mtIn {B : Nat} {W : World} (u : Later B W) (X : Nat → Nat) (n g c t : Nat) (hn : n ≤ 8) (ht : t < bit n) (hg : g < B) (hT : ITab W g (bit n) (fun j => (X j : Int))) :
    Calls Try.prog 35 #[.slice (some ⟨g, 0, none⟩) (bit n) c, .int .i64 t] u.val (Ret B W (.bool (decide (X t = sz t)))) := by
  have hb := bit_le n hn
  have c0 : ∀ w : Later B W, w.val.cell? ⟨g, t, none⟩ = some (.int .i64 (X t : Int)) := fun w => (hT.keep_at w.below hg).cell ht
  have KS := Lib.hid (fun w : Later B W => c_mtSize w t (by omega))
  obtain ⟨r, hr⟩ : ∃ r, r = decide (X t = sz t) := ⟨_, rfl⟩
  have e1 : ((X t : Int) == (sz t : Int)) = r := by rw [hr, Bool.eq_iff_iff, beq_iff_eq, decide_eq_true_eq]; omega
  have e2 : (X t == sz t) = r := by rw [hr, Bool.eq_iff_iff, beq_iff_eq, decide_eq_true_eq]
  rw [← hr]
  clear hT hr
  generalize X t = xt at *
  generalize sz t = st at *
  go_enter Try.func35, Try.ntmps35
  go_wp2
  refine wp_region_later u (by kernel_rfl) (by kernel_rfl) (fun _ => ?_)
  repeat (first | go_big_quiet_step (((go_at_call 26; exact KS.out _))) | (refine wpQuiet_step (fun K hK => ?_); go_simp; refine ⟨_, fun _ => rfl, ?_⟩; refine hK _ ?_; clear hK K))
  refine wpQuiet_nil ?_
  intro u
  go_wp2
  go_ret
  exact Ret.mk u (vbool (by first | rfl | exact e1 | exact e2))

theorem ints_app (A : List Nat) (c : Nat) : ints A ++ [(c : Int)] = ints (A ++ [c]) := by simp [ints]
theorem wpList_pushQ {B : Nat} {W w : World} (hw : Below B W w) (hB : B ≤ w.heap.size) {ops : Array Oper} {rest : List Oper} {o : Oper} {a : Act} {Q : Exit → Act → World → Prop} (hgd : o.guard = none) (s x : Operand)
    (ho : o.op = .call { callee := .builtin .append, args := #[s, x], argTypes := #[22, 22] })
    (A : List Nat) (n : Nat) (hn : A.length = n) (ad : Option Addr) (cap c : Nat) (hs : a.eval s = .slice ad n cap) (hown : Own B w ad cap (ints A))
    (hx : a.eval x = .slice (some ⟨w.heap.size, 0, none⟩) 1 1)
    (hlen : n + 1 ≤ 17592186044416)
    (h : ∀ (u' : Later B W) (ad' : Option Addr) (cap' : Nat), Own B u'.val ad' cap' (ints (A ++ [c])) → wpList Try.prog ops Q rest (a.put o.dst (.slice ad' (n + 1 : Nat) cap')) u'.val) :
    wpList Try.prog ops Q (o :: rest) a (w.alloc (.cells #[.int .i64 c] 3)) := by
  have hl : (ints A).length = n := by rw [← hn]; simp [ints]
  refine wpList_push hw hB hgd s x ho (ints A) ad cap (c : Int) (by rw [hl]; exact hs) hown hx (by omega) (fun u' ad' cap' h' => ?_)
  rw [ints_app] at h' ⊢
  rw [show (ints (A ++ [c])).length = n + 1 by rw [← hn]; simp [ints]]
  exact h u' ad' cap' h'
theorem Own.cellQ {B : Nat} {w : World} {g cap : Nat} {xs : List Nat} (h : Own B w (some ⟨g, 0, none⟩) cap (ints xs)) {i : Nat} (hi : i < xs.length) : w.cell? ⟨g, i, none⟩ = some (.int .i64 ((xs.getD i 0 : Nat) : Int)) := by
  obtain ⟨b, off, e, _, hc⟩ := h.reads.at (k := i) (by rw [ints_len]; exact hi)
  simp only [Option.some.injEq, Addr.mk.injEq] at e
  obtain ⟨rfl, rfl, _⟩ := e
  have := hc (Later.self w) i (by rw [ints_len]; exact hi)
  rw [ints_getD, Nat.zero_add] at this
  exact this

/-- what is left of a way back -/
def msrQ (Q : List Nat) (x : Int) : Nat := if x < 0 then 0 else posQ Q x.toNat Q.length
/-- what meet.grown answers -/
def GrAns (n s : Nat) (X Y : Nat → Nat) (v : Value) : Prop :=
  (∃ s' : Nat, v = .tuple #[.int .i64 s', .int .i64 0, .bool true] ∧ s' < bit n ∧ X s' = sz s' ∧ Y s' = sz s' ∧ sz s' = sz s + 1) ∨
  (∃ b : Nat, v = .tuple #[.int .i64 s, .int .i64 b, .bool false] ∧ ∃ U, U < bit n ∧ X U + Y (nand (bit n - 1) U) = sz s)

set_option maxRecDepth 100000 in
set_option maxHeartbeats 16000000 in
theorem c_grownM {B : Nat} {W : World} (u : Later B W) (n s gx cx gy cy : Nat) (X Y : Nat → Nat) (hX : RkM n X) (hY : RkM n Y) (hs : s < bit n) (hXs : X s = sz s) (hYs : Y s = sz s)
    (hgx : gx < B) (hgy : gy < B) (hTx : ITab W gx (bit n) (fun j => (X j : Int))) (hTy : ITab W gy (bit n) (fun j => (Y j : Int))) :
    Calls Try.prog 25 #[.slice (some ⟨gx, 0, none⟩) (bit n) cx, .slice (some ⟨gy, 0, none⟩) (bit n) cy, .int .i64 n, .int .i64 s] u.val (RetP B W (fun v w => GrAns n s X Y v)) := by
  have hn := hX.n8
  have hb := bit_le n hn
  have hs8 : s < 256 := by omega
  have huB := u.size
  have mk := mk_tab n (by omega)
  have HX := Lib.hid hX
  have HY := Lib.hid hY
  have HS := Lib.hid (And.intro hs (And.intro hXs hYs))
  obtain ⟨W1, hW1⟩ : ∃ W1, W1 = u.val := ⟨_, rfl⟩
  obtain ⟨gt, hgt⟩ : ∃ gt, gt = u.val.heap.size := ⟨_, rfl⟩
  have hgxt : gx < gt := by omega
  have hgyt : gy < gt := by omega
  have HTx : Hid (ITab W1 gx (bit n) (fun j => (X j : Int))) := Lib.hid (by rw [hW1]; exact hTx.keep_at u.below hgx)
  have HTy : Hid (ITab W1 gy (bit n) (fun j => (Y j : Int))) := Lib.hid (by rw [hW1]; exact hTy.keep_at u.below hgy)
  have KX : Hid (∀ (v : Later gt W1) (t : Nat), t < bit n → Calls Try.prog 35 #[.slice (some ⟨gx, 0, none⟩) (bit n) cx, .int .i64 t] v.val (Ret v.val.heap.size v.val (.bool (decide (X t = sz t))))) := Lib.hid (fun v t ht => c_mtIn (Later.self v.val) X n gx cx t hn ht (by have := v.size; omega) (HTx.out.keep_at v.below hgxt))
  have KY : Hid (∀ (v : Later gt W1) (t : Nat), t < bit n → Calls Try.prog 35 #[.slice (some ⟨gy, 0, none⟩) (bit n) cy, .int .i64 t] v.val (Ret v.val.heap.size v.val (.bool (decide (Y t = sz t))))) := Lib.hid (fun v t ht => c_mtIn (Later.self v.val) Y n gy cy t hn ht (by have := v.size; omega) (HTy.out.keep_at v.below hgyt))
  have HV : Hid (∀ v : Later gt W1, ∃ x : Later B W, x.val = v.val) := Lib.hid (fun v => by
    subst hW1 hgt
    exact ⟨u.up v, rfl⟩)
  have hp1 : ∀ (args : Array Value) (w : World), (callFunc 35 args).run Try.prog w = .ok (.enter 35 args) w := fun _ _ => by kernel_rfl
  have HZ0 : Hid (ITab (W1.alloc (.cells (madeCells #[.int .i64 0] n) 3)) gt n (fun _ => 0)) := Lib.hid (by rw [hgt, hW1]; exact ITab.made _ _)
  have hgW : gt = W1.heap.size := by rw [hW1]; exact hgt
  rw [← hW1]
  clear hX hY hs hXs hYs hTx hTy hgx hgy hW1 hgt
  go_enter Try.func25, Try.ntmps25
  go_upto_region 3 with fail
  obtain ⟨z, hz⟩ : ∃ z : Later gt W1, z.val = (W1.alloc (.cells (madeCells #[.int .i64 0] n) 3)) := ⟨⟨(W1.alloc (.cells (madeCells #[.int .i64 0] n) 3)), (Below.refl _ _).alloc (by omega) _, by simp; omega⟩, rfl⟩
  have HSz : Hid (gt + 1 ≤ z.val.heap.size) := Lib.hid (by rw [hz]; simp; omega)
  rw [← hgW]
  rw [← hz] at HZ0 ⊢
  clear hz mk
  have HG := Lib.hid hgW
  clear hgW huB u
  go_wp2
  go_loopw [27] (fun i wr => ∃ (k : Nat) (v : Later gt W1), k ≤ n ∧ i = .int .i64 k ∧ wr = v.val ∧ Hid (gt + 1 ≤ v.val.heap.size) ∧ Hid (ITab v.val gt n (fun j => if j < k then -2 else 0))) (fun i _ => n - (intOf i).toNat)
  case atStart => exact ⟨0, z, by omega, by first | rfl | go_num, rfl, HSz, Lib.hid (HZ0.out.congr (fun j _ => by rw [if_neg (by omega)]))⟩
  case round =>
    clear HSz HZ0 z
    obtain ⟨k, v, hk, rfl, rfl, HSv, HT⟩ := hrel
    by_cases hlt : k < n
    · have f1 : v.val.cell? ⟨gt, k, none⟩ = some (.int .i64 0) := by
        have := HT.out.cell hlt
        rwa [if_neg (by omega)] at this
      have f2 := HT.out.frozen k
      have HT2 : Hid (ITab (v.val.setCell ⟨gt, k, none⟩ (.int .i64 (-2))) gt n (fun j => if j < k + 1 then -2 else 0)) := Lib.hid (HT.out.set k _ (fun j hj => by
        by_cases e : j = k
        · subst e; rw [if_pos (by omega), if_pos rfl]
        · rw [if_neg e]
          by_cases d : j < k
          · rw [if_pos d, if_pos (by omega)]
          · rw [if_neg d, if_neg (by omega)]))
      obtain ⟨x, hx⟩ : ∃ x : Later gt W1, x.val = v.val.setCell ⟨gt, k, none⟩ (.int .i64 (-2)) := ⟨v.set ⟨gt, k, none⟩ (Nat.le_refl _) _, rfl⟩
      have HSx : Hid (gt + 1 ≤ x.val.heap.size) := Lib.hid (by rw [hx]; have := HSv.out; simp; omega)
      rw [← hx] at HT2
      go_wp2
      go_roundw
      case rel => exact ⟨k + 1, x, by omega, by go_num, hx.symm, HSx, HT2⟩
      case measure => simp [intOf]; omega
    · have hke : k = n := by omega
      subst hke
      have HT0 : Hid (ITab v.val gt k (cS s X 0)) := Lib.hid (HT.out.congr (fun j hj => by rw [if_pos hj]; unfold cS; rw [if_neg (by omega)]))
      have HO0 : Hid (Own (gt + 1) v.val none 0 (ints (qS s X 0))) := Lib.hid (by
        show Own (gt + 1) v.val none 0 (ints [])
        exact Own.nil _ _)
      have HL0 : Hid ((qS s X 0).length = 0) := Lib.hid rfl
      clear HT
      go_wp2
      go_loopw [14, 35] (fun l i wr => ∃ (i' m : Nat) (v : Later gt W1) (ad : Option Addr) (cp : Nat), i' ≤ k ∧ i = .int .i64 i' ∧ l = .slice ad m cp ∧ wr = v.val ∧ m ≤ i' ∧ Hid ((qS s X i').length = m) ∧ Hid (gt + 1 ≤ v.val.heap.size) ∧ Hid (ITab v.val gt k (cS s X i')) ∧ Hid (Own (gt + 1) v.val ad cp (ints (qS s X i')))) (fun _ i _ => k - (intOf i).toNat)
      case atStart => exact ⟨0, 0, v, none, 0, by omega, by first | rfl | go_num, rfl, rfl, by omega, HL0, HSv, HT0, HO0⟩
      case round =>
        clear HL0 HSv HT0 HO0 v
        obtain ⟨i, m, v, ad, cp, hi, rfl, rfl, rfl, hmi, HL, HSv, HT, HO⟩ := hrel
        by_cases hlt2 : i < k
        · have hbi := bit_lt i (by omega)
          have bc := bit_cast i
          have ib := i64_bit s i hs8 (by omega)
          have w1 := IntWalk.i64_in (bit i : Int) (by omega)
          have o1 := i64_or s (bit i) (by omega) (by omega)
          have hor : s ||| bit i < bit k := or_lt_bit HS.out.1 (bit_lt_bit hlt2)
          have HKx := Lib.hid (KX.out v (s ||| bit i) hor)
          have Hq : Hid (srcB s X i = (!s.testBit i && decide (X (s ||| bit i) = sz (s ||| bit i)))) := Lib.hid rfl
          have f1 := HT.out.cell hlt2
          have f2 := HT.out.frozen i
          have hm1 : m + 1 ≤ 17592186044416 := by omega
          obtain ⟨r, hr⟩ : ∃ r, r = srcB s X i := ⟨_, rfl⟩
          have HR := Lib.hid hr
          have skip : r = false → qS s X (i + 1) = qS s X i ∧ ∀ j, cS s X (i + 1) j = cS s X i j := fun h => by
            rw [qS_step, if_neg (by rw [← hr, h]; decide)]
            exact ⟨rfl, fun j => by rw [cS_step, if_neg (fun g => by rw [← hr, h] at g; cases g.2)]⟩
          have HSk := Lib.hid skip
          clear hr skip
          rcases btf (s.testBit i) with g1 | g1
          · rw [g1] at ib
            have hr0 : r = false := by rw [HR.out, Hq.out, g1]; rfl
            obtain ⟨e1, e2⟩ := HSk.out hr0
            have HT2 : Hid (ITab v.val gt k (cS s X (i + 1))) := Lib.hid (HT.out.congr (fun j _ => (e2 j).symm))
            have HO2 : Hid (Own (gt + 1) v.val ad cp (ints (qS s X (i + 1)))) := Lib.hid (by rw [e1]; exact HO.out)
            have HL2 : Hid ((qS s X (i + 1)).length = m) := Lib.hid (by rw [e1]; exact HL.out)
            clear g1 e1 e2 hr0 HSk HR Hq HKx
            generalize s ||| bit i = sb at *
            go_wp2
            go_roundw
            case rel => exact ⟨i + 1, m, v, ad, cp, by omega, by go_num, by trivial, by first | rfl | trivial, by omega, HL2, HSv, HT2, HO2⟩
            case measure => simp [intOf]; omega
          · rw [g1] at ib
            obtain ⟨dd, hdd⟩ : ∃ dd, dd = decide (X (s ||| bit i) = sz (s ||| bit i)) := ⟨_, rfl⟩
            rw [← hdd] at HKx
            have hrd : r = dd := by rw [HR.out, Hq.out, g1, ← hdd]; rfl
            clear hdd Hq g1
            subst hrd
            generalize s ||| bit i = sb at *
            cases r
            · obtain ⟨e1, e2⟩ := HSk.out rfl
              have HT2 : Hid (ITab v.val gt k (cS s X (i + 1))) := Lib.hid (HT.out.congr (fun j _ => (e2 j).symm))
              have HO2 : Hid (Own (gt + 1) v.val ad cp (ints (qS s X (i + 1)))) := Lib.hid (by rw [e1]; exact HO.out)
              have HL2 : Hid ((qS s X (i + 1)).length = m) := Lib.hid (by rw [e1]; exact HL.out)
              clear e1 e2 HSk HR
              go_upto_region 15 with (first | (go_at_call 35; (with_reducible refine (HKx.out).mono ?_); rintro e _ ⟨rfl, y, rfl⟩) | fail)
              obtain ⟨x, hx⟩ : ∃ x : Later gt W1, x.val = y.val := ⟨v.up y, rfl⟩
              have HSx : Hid (gt + 1 ≤ x.val.heap.size) := Lib.hid (by rw [hx]; have := y.size; have := HSv.out; omega)
              have HTx' : Hid (ITab x.val gt k (cS s X (i + 1))) := Lib.hid (by rw [hx]; exact HT2.out.keep y.below)
              have HOx : Hid (Own (gt + 1) x.val ad cp (ints (qS s X (i + 1)))) := Lib.hid (by rw [hx]; exact HO2.out.keep y.below)
              rw [← hx]
              go_wp2
              go_roundw
              case rel => exact ⟨i + 1, m, x, ad, cp, by omega, by go_num, by trivial, (by first | exact hx.symm | rfl), by omega, HL2, HSx, HTx', HOx⟩
              case measure => simp [intOf]; omega
            · have e1 : qS s X (i + 1) = qS s X i ++ [i] := by rw [qS_step, if_pos HR.out.symm]
              have e2 : ∀ j, cS s X (i + 1) j = if j = i then -1 else cS s X i j := fun j => by
                rw [cS_step]
                by_cases e : j = i
                · rw [if_pos ⟨e, HR.out.symm⟩, if_pos e]
                · rw [if_neg (fun g => e g.1), if_neg e]
              have HE1 := Lib.hid e1
              have HE2 := Lib.hid e2
              clear e1 e2 HSk HR
              go_upto_region 13 with (first | (go_at_call 35; (with_reducible refine (HKx.out).mono ?_); rintro e _ ⟨rfl, y, rfl⟩) | fail)
              obtain ⟨x, hx⟩ : ∃ x : Later gt W1, x.val = y.val := ⟨v.up y, rfl⟩
              have HSx : Hid (gt + 1 ≤ x.val.heap.size) := Lib.hid (by rw [hx]; have := y.size; have := HSv.out; omega)
              have HTx' : Hid (ITab x.val gt k (cS s X i)) := Lib.hid (by rw [hx]; exact HT.out.keep y.below)
              have HOx : Hid (Own (gt + 1) x.val ad cp (ints (qS s X i))) := Lib.hid (by rw [hx]; exact HO.out.keep y.below)
              have f1x := HTx'.out.cell hlt2
              have f2x := HTx'.out.frozen i
              rw [← hx]
              clear hx y f1 f2 HT HO HSv
              have HT2 : Hid (ITab (x.val.setCell ⟨gt, i, none⟩ (.int .i64 (-1))) gt k (cS s X (i + 1))) := Lib.hid (HTx'.out.set i _ (fun j hj => HE2.out j))
              have HO2 : Hid (Own (gt + 1) (x.val.setCell ⟨gt, i, none⟩ (.int .i64 (-1))) ad cp (ints (qS s X i))) := Lib.hid (HOx.out.set (by omega) _)
              generalize cS s X i i = cold at *
              go_upto_region 14 with fail
              obtain ⟨x2, hx2⟩ : ∃ x2 : Later gt W1, x2.val = x.val.setCell ⟨gt, i, none⟩ (.int .i64 (-1)) := ⟨x.set ⟨gt, i, none⟩ (Nat.le_refl _) _, rfl⟩
              have HS2 : gt + 1 ≤ x2.val.heap.size := by rw [hx2]; have := HSx.out; simp; omega
              rw [← hx2] at HT2 HO2 ⊢
              clear hx2 f1x f2x HTx' HOx HSx
              go_wp2_with (first | (at_builtin; refine wpList_pushQ (B := gt + 1) (W := x2.val) (w := x2.val) (Below.refl _ _) HS2 rfl _ _ rfl (qS s X i) m HL.out ad cp i rfl HO2.out rfl hm1 ?_; intro u2 ad2 cp2 hown) | fail)
              obtain ⟨x3, hx3⟩ : ∃ x3 : Later gt W1, x3.val = u2.val := ⟨x2.to u2.val (u2.below.mono (by omega)), rfl⟩
              have HS3 : Hid (gt + 1 ≤ x3.val.heap.size) := Lib.hid (by rw [hx3]; exact u2.size)
              have HT3 : Hid (ITab x3.val gt k (cS s X (i + 1))) := Lib.hid (by rw [hx3]; exact HT2.out.keep_at u2.below (by omega))
              have HO3 : Hid (Own (gt + 1) x3.val ad2 cp2 (ints (qS s X (i + 1)))) := Lib.hid (by rw [hx3, HE1.out]; exact hown)
              go_roundw
              case rel => exact ⟨i + 1, m + 1, x3, ad2, cp2, by omega, by go_num, by trivial, (by first | exact hx3.symm | rfl), by omega, Lib.hid (by rw [HE1.out, List.length_append, HL.out]; rfl), HS3, HT3, HO3⟩
              case measure => simp [intOf]; omega
        · have hie : k = i := by omega
          subst hie
          have HB0 : Hid (Bq k s X Y (cS s X k) (qS s X k) 0) := Lib.hid (Bq.start k s X Y)
          have hm8 : m ≤ 8 := by rw [← HL.out]; exact HB0.out.len hn
          clear hmi hi hlt2
          go_wp2
          go_loopw [3, 14, 16] (fun sv l i wr => ∃ (q m : Nat) (c : Nat → Int) (Q : List Nat) (v : Later gt W1) (ad : Option Addr) (cp : Nat), sv = .int .i64 s ∧ i = .int .i64 q ∧ l = .slice ad m cp ∧ wr = v.val ∧ q ≤ m ∧ m ≤ 8 ∧ Hid (Q.length = m) ∧ Hid (Bq k s X Y c Q q) ∧ Hid (gt + 1 ≤ v.val.heap.size) ∧ Hid (ITab v.val gt k c) ∧ Hid (Own (gt + 1) v.val ad cp (ints Q))) (fun _ _ i _ => 8 - (intOf i).toNat)
          case atStart => exact ⟨0, m, _, _, v, ad, cp, rfl, by first | rfl | go_num, rfl, rfl, by omega, hm8, HL, HB0, HSv, HT, HO⟩
          case round =>
            clear HL HB0 HSv HT HO hm8
            obtain ⟨q, m, c, Q, v, ad, cp, rfl, rfl, rfl, rfl, hqm', hm8, HL, HB, HSv, HT, HO⟩ := hrel
            by_cases hqm : q < m
            · obtain ⟨gq, rfl⟩ := own_some HO.out (by intro e; have h2 : (ints Q).length = 0 := by { rw [e]; rfl }; rw [ints_len, HL.out] at h2; omega)
              have cq := HO.out.cellQ (show q < Q.length by rw [HL.out]; exact hqm)
              obtain ⟨i0, hi0e⟩ : ∃ i0, Q.getD q 0 = i0 := ⟨_, rfl⟩
              have HI0 := Lib.hid hi0e
              rw [hi0e] at cq
              clear hi0e
              have hi0k : i0 < k := by rw [← HI0.out]; exact HB.out.lt q (by rw [HL.out]; exact hqm)
              have hbi := bit_lt i0 (by omega)
              have bc := bit_cast i0
              have ib := i64_bit s i0 hs8 (by omega)
              have w1 := IntWalk.i64_in (bit i0 : Int) (by omega)
              have o1 := i64_or s (bit i0) (by omega) (by omega)
              have hor : s ||| bit i0 < bit k := or_lt_bit HS.out.1 (bit_lt_bit hi0k)
              have HKy := Lib.hid (KY.out v (s ||| bit i0) hor)
              rcases btf (s.testBit i0) with hi0 | hi0
              · -- in
                rw [hi0] at ib
                have HNs : Hid (¬ snkE s Y i0) := Lib.hid (fun h => by have h1 := h.1; rw [hi0] at h1; cases h1)
                clear HKy
                generalize hob : s ||| bit i0 = sb at *
                clear hob hor
                go_upto_region 27 with fail
                clear cq o1 ib
                obtain ⟨ad, had⟩ : ∃ ad : Option Addr, ad = some ⟨gq, 0, none⟩ := ⟨_, rfl⟩
                rw [← had] at HO ⊢
                clear had
                go_wp2
                go_loopw [14, 98] (fun l i wr => ∃ (k0 m : Nat) (c : Nat → Int) (Q : List Nat) (v : Later gt W1) (ad : Option Addr) (cp : Nat), k0 ≤ k ∧ i = .int .i64 k0 ∧ l = .slice ad m cp ∧ wr = v.val ∧ q < m ∧ m ≤ 8 ∧ Hid (Q.length = m) ∧ Hid (Bq k s X Y c Q q) ∧ Hid (Q.getD q 0 = i0) ∧ Hid (∀ k', k' < k0 → edE s X Y i0 k' → ∃ j, j < Q.length ∧ Q.getD j 0 = k') ∧ Hid (gt + 1 ≤ v.val.heap.size) ∧ Hid (ITab v.val gt k c) ∧ Hid (Own (gt + 1) v.val ad cp (ints Q))) (fun _ i _ => k - (intOf i).toNat)
                case atStart => exact ⟨0, m, c, Q, v, ad, cp, by omega, by first | rfl | go_num, rfl, rfl, hqm, hm8, HL, HB, HI0, Lib.hid (fun k' hk' => by omega), HSv, HT, HO⟩
                case round =>
                  clear HL HB HSv HT HO HI0 hqm hm8
                  obtain ⟨k0, m, c, Q, v, ad, cp, hk0, rfl, rfl, rfl, hqm, hm8, HL, HB, HI0, HN, HSv, HT, HO⟩ := hrel
                  by_cases hkl : k0 < k
                  · have f1 := HT.out.cell hkl
                    have f2 := HT.out.frozen k0
                    have hbk := bit_lt k0 (by omega)
                    have bck := bit_cast k0
                    have ibk := i64_bit s k0 hs8 (by omega)
                    have wk := IntWalk.i64_in (bit k0 : Int) (by omega)
                    have HC : Hid (c k0 = c k0) := Lib.hid rfl
                    have next : (edE s X Y i0 k0 → ∃ j, j < Q.length ∧ Q.getD j 0 = k0) → ∀ k', k' < k0 + 1 → edE s X Y i0 k' → ∃ j, j < Q.length ∧ Q.getD j 0 = k' := fun h k' hk' he => by
                      by_cases e : k' = k0
                      · subst e; exact h he
                      · exact HN.out k' (by omega) he
                    have HNx := Lib.hid next
                    clear next HC
                    rcases ieq (c k0) (-2) with ⟨hc, d1, d2⟩ | ⟨hc, d1, d2⟩
                    · rcases btf (s.testBit k0) with gk | gk
                      · rw [gk] at ibk
                        have HN2 := Lib.hid (HNx.out (fun he => by
                          rcases he with ⟨e1, _, _⟩ | ⟨_, e2, _⟩
                          · rw [hi0] at e1; cases e1
                          · rw [gk] at e2; cases e2))
                        clear gk hc
                        generalize c k0 = ck at *
                        go_wp2
                        go_roundw
                        case rel => exact ⟨k0 + 1, m, c, Q, v, ad, cp, by omega, by go_num, by trivial, by first | rfl | trivial, hqm, hm8, HL, HB, HI0, HN2, HSv, HT, HO⟩
                        case measure => simp [intOf]; omega
                      · rw [gk] at ibk
                        obtain ⟨rr, hrr⟩ : ∃ rr, rr = decide (X (nand s (bit i0) ||| bit k0) = sz (nand s (bit i0) ||| bit k0)) := ⟨_, rfl⟩
                        have hnl : nand s (bit i0) < bit k := dl_lt (i := i0) HS.out.1
                        have htl : nand s (bit i0) ||| bit k0 < bit k := or_lt_bit hnl (bit_lt_bit hkl)
                        have a1 := i64_andNot s (bit i0) (by omega) (by omega)
                        have o2 := i64_or (nand s (bit i0)) (bit k0) (by omega) (by omega)
                        have KQ : Hid (∀ w : Later v.val.heap.size v.val, Calls Try.prog 35 #[.slice (some ⟨gx, 0, none⟩) (bit k) cx, .int .i64 (nand s (bit i0) ||| bit k0 : Nat)] w.val (Ret v.val.heap.size v.val (.bool rr))) := Lib.hid (fun w => by
                          rw [hrr]
                          exact c_mtIn w X k gx cx _ hn htl (by have := v.size; omega) (HTx.out.keep_at v.below hgxt))
                        have HFd : Hid (edE s X Y i0 k0 → Bq k s X Y (fun j => if j = k0 then (i0 : Int) else c j) (Q ++ [k0]) q) := Lib.hid (fun he => by
                          have := HB.out.find (by rw [HL.out]; exact hqm) hkl hc (by rw [HI0.out]; exact he)
                          rwa [HI0.out] at this)
                        have HEd : Hid (rr = true → edE s X Y i0 k0) := Lib.hid (fun h => .inr ⟨hi0, gk, by have := hrr; rw [h] at this; exact of_decide_eq_true this.symm⟩)
                        have HNo : Hid (rr = false → ¬ edE s X Y i0 k0) := Lib.hid (fun h he => by
                          have h2 := hrr
                          rw [h] at h2
                          have h3 := of_decide_eq_false h2.symm
                          rcases he with ⟨e1, _, _⟩ | ⟨_, _, e3⟩
                          · rw [hi0] at e1; cases e1
                          · exact h3 e3)
                        have HRR := Lib.hid hrr
                        have HGk := Lib.hid gk
                        have HCk := Lib.hid hc
                        clear hrr gk hnl htl
                        generalize nand s (bit i0) ||| bit k0 = tt at *
                        generalize nand s (bit i0) = nn at *
                        generalize c k0 = ck at *
                        clear hc
                        obtain ⟨z, hz⟩ : ∃ z : Later v.val.heap.size v.val, z.val = v.val := ⟨Later.self _, rfl⟩
                        have f1z : z.val.cell? ⟨gt, k0, none⟩ = some (.int .i64 ck) := by rw [hz]; exact f1
                        have HZv : Hid (z.val = v.val) := Lib.hid hz
                        rw [← hz]
                        clear hz f1 f2
                        go_upto_region 31 with fail
                        clear f1z
                        cases rr
                        · have HN2 := Lib.hid (HNx.out (fun he => absurd he (HNo.out rfl)))
                          clear HEd HNo HNx HRR HGk HCk HFd
                          refine wp_region_later z (by kernel_rfl) (by kernel_rfl) (fun _ => ?_)
                          repeat (first | go_big_quiet_step (((go_at_call 35; exact KQ.out _))) | (refine wpQuiet_step (fun K hK => ?_); go_simp; refine ⟨_, fun _ => rfl, ?_⟩; refine hK _ ?_; clear hK K))
                          refine wpQuiet_nil ?_
                          intro z
                          obtain ⟨x, hx⟩ : ∃ x : Later gt W1, x.val = z.val := ⟨v.up z, rfl⟩
                          have HSx : Hid (gt + 1 ≤ x.val.heap.size) := Lib.hid (by rw [hx]; have := z.size; have := HSv.out; omega)
                          have HTx' : Hid (ITab x.val gt k c) := Lib.hid (by rw [hx]; exact HT.out.keep z.below)
                          have HOx : Hid (Own (gt + 1) x.val ad cp (ints Q)) := Lib.hid (by rw [hx]; exact HO.out.keep z.below)
                          rw [← hx]
                          go_wp2
                          go_roundw
                          case rel => exact ⟨k0 + 1, m, c, Q, x, ad, cp, by omega, by go_num, by trivial, (by first | exact hx.symm | rfl), hqm, hm8, HL, HB, HI0, HN2, HSx, HTx', HOx⟩
                          case measure => simp [intOf]; omega
                        · have HE := Lib.hid (HEd.out rfl)
                          have HBf : Hid (Bq k s X Y (fun j => if j = k0 then (i0 : Int) else c j) (Q ++ [k0]) q) := Lib.hid (HFd.out HE.out)
                          have HLf : Hid ((Q ++ [k0]).length = m + 1) := Lib.hid (by rw [List.length_append, HL.out]; rfl)
                          have hm8f : m + 1 ≤ 8 := by rw [← HLf.out]; exact HBf.out.len hn
                          have HI0f : Hid ((Q ++ [k0]).getD q 0 = i0) := Lib.hid (by rw [getD_app (by rw [HL.out]; exact hqm)]; exact HI0.out)
                          have HNf : Hid (∀ k', k' < k0 + 1 → edE s X Y i0 k' → ∃ j, j < (Q ++ [k0]).length ∧ (Q ++ [k0]).getD j 0 = k') := Lib.hid (fun k' hk' he => by
                            by_cases e : k' = k0
                            · exact ⟨Q.length, by rw [HLf.out, HL.out]; omega, by rw [getD_end]; exact e.symm⟩
                            · obtain ⟨j, hj, e2⟩ := HN.out k' (by omega) he
                              exact ⟨j, by rw [List.length_append]; omega, by rw [getD_app hj]; exact e2⟩)
                          have hm1 : m + 1 ≤ 17592186044416 := by omega
                          clear HEd HNo HNx HRR HGk HCk HE HB HI0 HN HFd
                          refine wp_region_later z (by kernel_rfl) (by kernel_rfl) (fun _ => ?_)
                          repeat (first | go_big_quiet_step (((go_at_call 35; exact KQ.out _))) | (refine wpQuiet_step (fun K hK => ?_); go_simp; refine ⟨_, fun _ => rfl, ?_⟩; refine hK _ ?_; clear hK K))
                          refine wpQuiet_nil ?_
                          intro z
                          obtain ⟨x, hx⟩ : ∃ x : Later gt W1, x.val = z.val := ⟨v.up z, rfl⟩
                          have HSx : Hid (gt + 1 ≤ x.val.heap.size) := Lib.hid (by rw [hx]; have := z.size; have := HSv.out; omega)
                          have HTx' : Hid (ITab x.val gt k c) := Lib.hid (by rw [hx]; exact HT.out.keep z.below)
                          have HOx : Hid (Own (gt + 1) x.val ad cp (ints Q)) := Lib.hid (by rw [hx]; exact HO.out.keep z.below)
                          have f1x := HTx'.out.cell hkl
                          have f2x := HTx'.out.frozen k0
                          rw [← hx]
                          clear hx z KQ HT HO HSv
                          have HT2 : Hid (ITab (x.val.setCell ⟨gt, k0, none⟩ (.int .i64 i0)) gt k (fun j => if j = k0 then (i0 : Int) else c j)) := Lib.hid (HTx'.out.set k0 _ (fun j hj => rfl))
                          have HO2 : Hid (Own (gt + 1) (x.val.setCell ⟨gt, k0, none⟩ (.int .i64 i0)) ad cp (ints Q)) := Lib.hid (HOx.out.set (by omega) _)
                          generalize c k0 = cold at *
                          go_upto_region 33 with fail
                          obtain ⟨x2, hx2⟩ : ∃ x2 : Later gt W1, x2.val = x.val.setCell ⟨gt, k0, none⟩ (.int .i64 i0) := ⟨x.set ⟨gt, k0, none⟩ (Nat.le_refl _) _, rfl⟩
                          have HS2 : gt + 1 ≤ x2.val.heap.size := by rw [hx2]; have := HSx.out; simp; omega
                          rw [← hx2] at HT2 HO2 ⊢
                          clear hx2 f1x f2x HTx' HOx HSx
                          go_wp2_with (first | (at_builtin; refine wpList_pushQ (B := gt + 1) (W := x2.val) (w := x2.val) (Below.refl _ _) HS2 rfl _ _ rfl Q m HL.out ad cp k0 rfl HO2.out rfl hm1 ?_; intro u2 ad2 cp2 hown) | fail)
                          obtain ⟨x3, hx3⟩ : ∃ x3 : Later gt W1, x3.val = u2.val := ⟨x2.to u2.val (u2.below.mono (by omega)), rfl⟩
                          have HS3 : Hid (gt + 1 ≤ x3.val.heap.size) := Lib.hid (by rw [hx3]; exact u2.size)
                          have HT3 : Hid (ITab x3.val gt k (fun j => if j = k0 then (i0 : Int) else c j)) := Lib.hid (by rw [hx3]; exact HT2.out.keep_at u2.below (by omega))
                          have HO3 : Hid (Own (gt + 1) x3.val ad2 cp2 (ints (Q ++ [k0]))) := Lib.hid (by rw [hx3]; exact hown)
                          go_roundw
                          case rel => exact ⟨k0 + 1, m + 1, _, _, x3, ad2, cp2, by omega, by go_num, by trivial, (by first | exact hx3.symm | rfl), by omega, hm8f, HLf, HBf, HI0f, HNf, HS3, HT3, HO3⟩
                          case measure => simp [intOf]; omega
                    · have HN2 := Lib.hid (HNx.out (fun _ => (HB.out.seen k0 hkl).1 hc))
                      clear hc
                      generalize c k0 = ck at *
                      go_wp2
                      go_roundw
                      case rel => exact ⟨k0 + 1, m, c, Q, v, ad, cp, by omega, by go_num, by trivial, by first | rfl | trivial, hqm, hm8, HL, HB, HI0, HN2, HSv, HT, HO⟩
                      case measure => simp [intOf]; omega
                  · have hke : k0 = k := by omega
                    subst hke
                    have HB2 : Hid (Bq k0 s X Y c Q (q + 1)) := Lib.hid (HB.out.next (by rw [HL.out]; exact hqm) (by rw [HI0.out]; exact HNs.out) (fun k' hk' he => HN.out k' hk' (by rw [HI0.out] at he; exact he)))
                    go_wp2
                    go_roundw
                    case rel => exact ⟨q + 1, m, c, Q, v, ad, cp, by trivial, by go_num, by trivial, by first | rfl | trivial, by omega, hm8, HL, HB2, HSv, HT, HO⟩
                    case measure => simp [intOf]; omega
              · -- out
                rw [hi0] at ib
                by_cases hsn : Y (s ||| bit i0) = sz (s ||| bit i0)
                · rw [decide_eq_true hsn] at HKy
                  obtain ⟨l, hw, hf1, hf2, hf3, hf4⟩ := HB.out.found (by rw [HL.out]; exact hqm) (by rw [HI0.out]; exact ⟨hi0, hsn⟩) HX.out HY.out HS.out.1 HS.out.2.1 HS.out.2.2
                  obtain ⟨fin, hfin⟩ : ∃ fin, flipL s l = fin := ⟨_, rfl⟩
                  rw [hfin] at hf1 hf2 hf3 hf4
                  have HFin := Lib.hid (And.intro hf1 (And.intro hf2 (And.intro hf3 hf4)))
                  have HFl := Lib.hid hfin
                  have HW : Hid (((l = [] ∧ (i0 : Int) < 0) ∨ ∃ j, j < Q.length ∧ (i0 : Int) = (Q.getD j 0 : Nat) ∧ Way c Q j l)) := Lib.hid (.inr ⟨q, by rw [HL.out]; exact hqm, by rw [HI0.out], hw⟩)
                  have hi0n : (0 : Int) ≤ (i0 : Int) := by omega
                  clear hsn hw hf1 hf2 hf3 hf4 hfin
                  generalize hob : s ||| bit i0 = sb at *
                  clear hob hor
                  go_upto_region 22 with (first | (go_at_call 35; (with_reducible refine (HKy.out).mono ?_); rintro e _ ⟨rfl, y, rfl⟩) | fail)
                  obtain ⟨x, hx⟩ : ∃ x : Later gt W1, x.val = y.val := ⟨v.up y, rfl⟩
                  have HTx' : Hid (ITab x.val gt k c) := Lib.hid (by rw [hx]; exact HT.out.keep y.below)
                  rw [← hx]
                  clear hx cq o1 ib HKy HSv HT HO y v HI0
                  go_wp2
                  go_loopw [3, 19] (fun sv i wr => ∃ (sf : Nat) (kk : Int) (l' : List Nat), sv = .int .i64 sf ∧ i = .int .i64 kk ∧ wr = x.val ∧ sf < 256 ∧ Hid (flipL sf l' = fin) ∧ Hid ((l' = [] ∧ kk < 0) ∨ ∃ j, j < Q.length ∧ kk = (Q.getD j 0 : Nat) ∧ Way c Q j l')) (fun _ i _ => msrQ Q (intOf i))
                  case atStart => exact ⟨s, i0, l, rfl, by first | rfl | go_num, rfl, hs8, HFl, HW⟩
                  case round =>
                    clear HFl HW hi0n
                    obtain ⟨sf, kk, l', rfl, rfl, rfl, hsf, HFl, HW⟩ := hrel
                    rcases HW.out with ⟨rfl, hneg⟩ | ⟨j, hj, hkk, hw⟩
                    · have hsfin : sf = fin := HFl.out
                      have HA : Hid (GrAns k s X Y (.tuple #[.int .i64 sf, .int .i64 0, .bool true])) := Lib.hid (.inl ⟨sf, rfl, by rw [hsfin]; exact HFin.out⟩)
                      clear HW HFl HFin hsfin
                      go_wp2
                      go_ret3
                      exact RetP.of (HV.out x) HA.out
                    · have hjk : Q.getD j 0 < k := HB.out.lt j hj
                      have hpos := posQ_at HB.out.inj Q.length hj (Nat.le_refl _)
                      obtain ⟨e0, he0⟩ : ∃ e0, Q.getD j 0 = e0 := ⟨_, rfl⟩
                      rw [he0] at hkk hjk hpos
                      subst hkk
                      have ck := HTx'.out.cell hjk
                      have hbe := bit_lt e0 (by omega)
                      have bce := bit_cast e0
                      have we := IntWalk.i64_in (bit e0 : Int) (by omega)
                      have xe := i64_xor sf (bit e0) (by omega) (by omega)
                      have hxl : sf ^^^ bit e0 < 256 := Nat.xor_lt_two_pow (n := 8) hsf (by omega)
                      have hnn : (0 : Int) ≤ (e0 : Int) := by omega
                      obtain ⟨kn, hkn⟩ : ∃ kn, kn = c e0 := ⟨_, rfl⟩
                      rw [← hkn] at ck
                      have hl' : ∃ l2, l' = e0 :: l2 ∧ ((l2 = [] ∧ kn < 0) ∨ ∃ j2, j2 < j ∧ kn = (Q.getD j2 0 : Nat) ∧ Way c Q j2 l2) := by
                        cases hw with
                        | src _ h => exact ⟨[], by rw [he0], .inl ⟨rfl, by rw [hkn, ← he0, h]; decide⟩⟩
                        | step _ a l2 h e w => exact ⟨l2, by rw [he0], .inr ⟨a, h, by rw [hkn, ← he0, e], w⟩⟩
                      obtain ⟨l2, rfl, hor2⟩ := hl'
                      have HFl2 : Hid (flipL (sf ^^^ bit e0) l2 = fin) := Lib.hid HFl.out
                      have HW2 : Hid ((l2 = [] ∧ kn < 0) ∨ ∃ j, j < Q.length ∧ kn = (Q.getD j 0 : Nat) ∧ Way c Q j l2) := Lib.hid (by
                        rcases hor2 with h | ⟨j2, h1, h2, h3⟩
                        · exact .inl h
                        · exact .inr ⟨j2, by omega, h2, h3⟩)
                      have HMs : Hid ((if kn < 0 then 0 else posQ Q kn.toNat Q.length) < j + 1) := Lib.hid (by
                        rcases hor2 with ⟨_, h⟩ | ⟨j2, h1, h2, h3⟩
                        · rw [if_pos h]; omega
                        · rw [if_neg (by omega), h2]
                          have := posQ_at HB.out.inj Q.length (show j2 < Q.length by omega) (Nat.le_refl _)
                          simp only [Int.toNat_natCast]
                          omega)
                      have HPs := Lib.hid hpos
                      clear hor2 hw HW HFl hkn he0 hpos
                      generalize sf ^^^ bit e0 = sx at *
                      go_wp2
                      go_roundw
                      case rel => exact ⟨sx, kn, l2, by trivial, by first | rfl | trivial, by first | rfl | trivial, hxl, HFl2, HW2⟩
                      case measure =>
                        have h1 := HMs.out
                        have h2 := HPs.out
                        show msrQ Q kn < msrQ Q (e0 : Int)
                        unfold msrQ
                        rw [if_neg (show ¬ (e0 : Int) < 0 by omega)]
                        simp only [Int.toNat_natCast]
                        omega
                · rw [decide_eq_false hsn] at HKy
                  have HNs : Hid (¬ snkE s Y i0) := Lib.hid (fun h => hsn h.2)
                  clear hsn
                  generalize hob : s ||| bit i0 = sb at *
                  clear hob hor
                  go_upto_region 27 with (first | (go_at_call 35; (with_reducible refine (HKy.out).mono ?_); rintro e _ ⟨rfl, y, rfl⟩) | fail)
                  obtain ⟨x, hx⟩ : ∃ x : Later gt W1, x.val = y.val := ⟨v.up y, rfl⟩
                  have HSx : Hid (gt + 1 ≤ x.val.heap.size) := Lib.hid (by rw [hx]; have := y.size; have := HSv.out; omega)
                  have HTx' : Hid (ITab x.val gt k c) := Lib.hid (by rw [hx]; exact HT.out.keep y.below)
                  have HOx : Hid (Own (gt + 1) x.val (some ⟨gq, 0, none⟩) cp (ints Q)) := Lib.hid (by rw [hx]; exact HO.out.keep y.below)
                  rw [← hx]
                  clear hx cq o1 ib HKy HSv HT HO y v
                  obtain ⟨v, hv⟩ : ∃ v : Later gt W1, v = x := ⟨_, rfl⟩
                  rw [← hv] at HSx HTx' HOx ⊢
                  have HSv := HSx
                  have HT := HTx'
                  have HO := HOx
                  clear hv x HSx HTx' HOx
                  obtain ⟨ad, had⟩ : ∃ ad : Option Addr, ad = some ⟨gq, 0, none⟩ := ⟨_, rfl⟩
                  rw [← had] at HO ⊢
                  clear had
                  go_wp2
                  go_loopw [14, 98] (fun l i wr => ∃ (k0 m : Nat) (c : Nat → Int) (Q : List Nat) (v : Later gt W1) (ad : Option Addr) (cp : Nat), k0 ≤ k ∧ i = .int .i64 k0 ∧ l = .slice ad m cp ∧ wr = v.val ∧ q < m ∧ m ≤ 8 ∧ Hid (Q.length = m) ∧ Hid (Bq k s X Y c Q q) ∧ Hid (Q.getD q 0 = i0) ∧ Hid (∀ k', k' < k0 → edE s X Y i0 k' → ∃ j, j < Q.length ∧ Q.getD j 0 = k') ∧ Hid (gt + 1 ≤ v.val.heap.size) ∧ Hid (ITab v.val gt k c) ∧ Hid (Own (gt + 1) v.val ad cp (ints Q))) (fun _ i _ => k - (intOf i).toNat)
                  case atStart => exact ⟨0, m, c, Q, v, ad, cp, by omega, by first | rfl | go_num, rfl, rfl, hqm, hm8, HL, HB, HI0, Lib.hid (fun k' hk' => by omega), HSv, HT, HO⟩
                  case round =>
                    clear HL HB HSv HT HO HI0 hqm hm8
                    obtain ⟨k0, m, c, Q, v, ad, cp, hk0, rfl, rfl, rfl, hqm, hm8, HL, HB, HI0, HN, HSv, HT, HO⟩ := hrel
                    by_cases hkl : k0 < k
                    · have f1 := HT.out.cell hkl
                      have f2 := HT.out.frozen k0
                      have hbk := bit_lt k0 (by omega)
                      have bck := bit_cast k0
                      have ibk := i64_bit s k0 hs8 (by omega)
                      have wk := IntWalk.i64_in (bit k0 : Int) (by omega)
                      have HC : Hid (c k0 = c k0) := Lib.hid rfl
                      have next : (edE s X Y i0 k0 → ∃ j, j < Q.length ∧ Q.getD j 0 = k0) → ∀ k', k' < k0 + 1 → edE s X Y i0 k' → ∃ j, j < Q.length ∧ Q.getD j 0 = k' := fun h k' hk' he => by
                        by_cases e : k' = k0
                        · subst e; exact h he
                        · exact HN.out k' (by omega) he
                      have HNx := Lib.hid next
                      clear next HC
                      rcases ieq (c k0) (-2) with ⟨hc, d1, d2⟩ | ⟨hc, d1, d2⟩
                      · rcases btf (s.testBit k0) with gk | gk
                        · rw [gk] at ibk
                          obtain ⟨rr, hrr⟩ : ∃ rr, rr = decide (Y (nand s (bit k0) ||| bit i0) = sz (nand s (bit k0) ||| bit i0)) := ⟨_, rfl⟩
                          have hnl : nand s (bit k0) < bit k := dl_lt (i := k0) HS.out.1
                          have htl : nand s (bit k0) ||| bit i0 < bit k := or_lt_bit hnl (bit_lt_bit hi0k)
                          have a1 := i64_andNot s (bit k0) (by omega) (by omega)
                          have o2 := i64_or (nand s (bit k0)) (bit i0) (by omega) (by omega)
                          have KQ : Hid (∀ w : Later v.val.heap.size v.val, Calls Try.prog 35 #[.slice (some ⟨gy, 0, none⟩) (bit k) cy, .int .i64 (nand s (bit k0) ||| bit i0 : Nat)] w.val (Ret v.val.heap.size v.val (.bool rr))) := Lib.hid (fun w => by
                            rw [hrr]
                            exact c_mtIn w Y k gy cy _ hn htl (by have := v.size; omega) (HTy.out.keep_at v.below hgyt))
                          have HFd : Hid (edE s X Y i0 k0 → Bq k s X Y (fun j => if j = k0 then (i0 : Int) else c j) (Q ++ [k0]) q) := Lib.hid (fun he => by
                            have := HB.out.find (by rw [HL.out]; exact hqm) hkl hc (by rw [HI0.out]; exact he)
                            rwa [HI0.out] at this)
                          have HEd : Hid (rr = true → edE s X Y i0 k0) := Lib.hid (fun h => .inl ⟨hi0, gk, by have := hrr; rw [h] at this; exact of_decide_eq_true this.symm⟩)
                          have HNo : Hid (rr = false → ¬ edE s X Y i0 k0) := Lib.hid (fun h he => by
                            have h2 := hrr
                            rw [h] at h2
                            have h3 := of_decide_eq_false h2.symm
                            rcases he with ⟨_, _, e3⟩ | ⟨e1, _, _⟩
                            · exact h3 e3
                            · rw [hi0] at e1; cases e1)
                          have HRR := Lib.hid hrr
                          have HGk := Lib.hid gk
                          have HCk := Lib.hid hc
                          clear hrr gk hnl htl
                          generalize nand s (bit k0) ||| bit i0 = tt at *
                          generalize nand s (bit k0) = nn at *
                          generalize c k0 = ck at *
                          clear hc
                          obtain ⟨z, hz⟩ : ∃ z : Later v.val.heap.size v.val, z.val = v.val := ⟨Later.self _, rfl⟩
                          have f1z : z.val.cell? ⟨gt, k0, none⟩ = some (.int .i64 ck) := by rw [hz]; exact f1
                          have HZv : Hid (z.val = v.val) := Lib.hid hz
                          rw [← hz]
                          clear hz f1 f2
                          go_upto_region 31 with fail
                          clear f1z
                          cases rr
                          · have HN2 := Lib.hid (HNx.out (fun he => absurd he (HNo.out rfl)))
                            clear HEd HNo HNx HRR HGk HCk HFd
                            refine wp_region_later z (by kernel_rfl) (by kernel_rfl) (fun _ => ?_)
                            repeat (first | go_big_quiet_step (((go_at_call 35; exact KQ.out _))) | (refine wpQuiet_step (fun K hK => ?_); go_simp; refine ⟨_, fun _ => rfl, ?_⟩; refine hK _ ?_; clear hK K))
                            refine wpQuiet_nil ?_
                            intro z
                            obtain ⟨x, hx⟩ : ∃ x : Later gt W1, x.val = z.val := ⟨v.up z, rfl⟩
                            have HSx : Hid (gt + 1 ≤ x.val.heap.size) := Lib.hid (by rw [hx]; have := z.size; have := HSv.out; omega)
                            have HTx' : Hid (ITab x.val gt k c) := Lib.hid (by rw [hx]; exact HT.out.keep z.below)
                            have HOx : Hid (Own (gt + 1) x.val ad cp (ints Q)) := Lib.hid (by rw [hx]; exact HO.out.keep z.below)
                            rw [← hx]
                            go_wp2
                            go_roundw
                            case rel => exact ⟨k0 + 1, m, c, Q, x, ad, cp, by omega, by go_num, by trivial, (by first | exact hx.symm | rfl), hqm, hm8, HL, HB, HI0, HN2, HSx, HTx', HOx⟩
                            case measure => simp [intOf]; omega
                          · have HE := Lib.hid (HEd.out rfl)
                            have HBf : Hid (Bq k s X Y (fun j => if j = k0 then (i0 : Int) else c j) (Q ++ [k0]) q) := Lib.hid (HFd.out HE.out)
                            have HLf : Hid ((Q ++ [k0]).length = m + 1) := Lib.hid (by rw [List.length_append, HL.out]; rfl)
                            have hm8f : m + 1 ≤ 8 := by rw [← HLf.out]; exact HBf.out.len hn
                            have HI0f : Hid ((Q ++ [k0]).getD q 0 = i0) := Lib.hid (by rw [getD_app (by rw [HL.out]; exact hqm)]; exact HI0.out)
                            have HNf : Hid (∀ k', k' < k0 + 1 → edE s X Y i0 k' → ∃ j, j < (Q ++ [k0]).length ∧ (Q ++ [k0]).getD j 0 = k') := Lib.hid (fun k' hk' he => by
                              by_cases e : k' = k0
                              · exact ⟨Q.length, by rw [HLf.out, HL.out]; omega, by rw [getD_end]; exact e.symm⟩
                              · obtain ⟨j, hj, e2⟩ := HN.out k' (by omega) he
                                exact ⟨j, by rw [List.length_append]; omega, by rw [getD_app hj]; exact e2⟩)
                            have hm1 : m + 1 ≤ 17592186044416 := by omega
                            clear HEd HNo HNx HRR HGk HCk HE HB HI0 HN HFd
                            refine wp_region_later z (by kernel_rfl) (by kernel_rfl) (fun _ => ?_)
                            repeat (first | go_big_quiet_step (((go_at_call 35; exact KQ.out _))) | (refine wpQuiet_step (fun K hK => ?_); go_simp; refine ⟨_, fun _ => rfl, ?_⟩; refine hK _ ?_; clear hK K))
                            refine wpQuiet_nil ?_
                            intro z
                            obtain ⟨x, hx⟩ : ∃ x : Later gt W1, x.val = z.val := ⟨v.up z, rfl⟩
                            have HSx : Hid (gt + 1 ≤ x.val.heap.size) := Lib.hid (by rw [hx]; have := z.size; have := HSv.out; omega)
                            have HTx' : Hid (ITab x.val gt k c) := Lib.hid (by rw [hx]; exact HT.out.keep z.below)
                            have HOx : Hid (Own (gt + 1) x.val ad cp (ints Q)) := Lib.hid (by rw [hx]; exact HO.out.keep z.below)
                            have f1x := HTx'.out.cell hkl
                            have f2x := HTx'.out.frozen k0
                            rw [← hx]
                            clear hx z KQ HT HO HSv
                            have HT2 : Hid (ITab (x.val.setCell ⟨gt, k0, none⟩ (.int .i64 i0)) gt k (fun j => if j = k0 then (i0 : Int) else c j)) := Lib.hid (HTx'.out.set k0 _ (fun j hj => rfl))
                            have HO2 : Hid (Own (gt + 1) (x.val.setCell ⟨gt, k0, none⟩ (.int .i64 i0)) ad cp (ints Q)) := Lib.hid (HOx.out.set (by omega) _)
                            generalize c k0 = cold at *
                            go_upto_region 33 with fail
                            obtain ⟨x2, hx2⟩ : ∃ x2 : Later gt W1, x2.val = x.val.setCell ⟨gt, k0, none⟩ (.int .i64 i0) := ⟨x.set ⟨gt, k0, none⟩ (Nat.le_refl _) _, rfl⟩
                            have HS2 : gt + 1 ≤ x2.val.heap.size := by rw [hx2]; have := HSx.out; simp; omega
                            rw [← hx2] at HT2 HO2 ⊢
                            clear hx2 f1x f2x HTx' HOx HSx
                            go_wp2_with (first | (at_builtin; refine wpList_pushQ (B := gt + 1) (W := x2.val) (w := x2.val) (Below.refl _ _) HS2 rfl _ _ rfl Q m HL.out ad cp k0 rfl HO2.out rfl hm1 ?_; intro u2 ad2 cp2 hown) | fail)
                            obtain ⟨x3, hx3⟩ : ∃ x3 : Later gt W1, x3.val = u2.val := ⟨x2.to u2.val (u2.below.mono (by omega)), rfl⟩
                            have HS3 : Hid (gt + 1 ≤ x3.val.heap.size) := Lib.hid (by rw [hx3]; exact u2.size)
                            have HT3 : Hid (ITab x3.val gt k (fun j => if j = k0 then (i0 : Int) else c j)) := Lib.hid (by rw [hx3]; exact HT2.out.keep_at u2.below (by omega))
                            have HO3 : Hid (Own (gt + 1) x3.val ad2 cp2 (ints (Q ++ [k0]))) := Lib.hid (by rw [hx3]; exact hown)
                            go_roundw
                            case rel => exact ⟨k0 + 1, m + 1, _, _, x3, ad2, cp2, by omega, by go_num, by trivial, (by first | exact hx3.symm | rfl), by omega, hm8f, HLf, HBf, HI0f, HNf, HS3, HT3, HO3⟩
                            case measure => simp [intOf]; omega
                        · rw [gk] at ibk
                          have HN2 := Lib.hid (HNx.out (fun he => by
                            rcases he with ⟨_, e2, _⟩ | ⟨e1, _, _⟩
                            · rw [gk] at e2; cases e2
                            · rw [hi0] at e1; cases e1))
                          clear gk hc
                          generalize c k0 = ck at *
                          go_wp2
                          go_roundw
                          case rel => exact ⟨k0 + 1, m, c, Q, v, ad, cp, by omega, by go_num, by trivial, by first | rfl | trivial, hqm, hm8, HL, HB, HI0, HN2, HSv, HT, HO⟩
                          case measure => simp [intOf]; omega
                      · have HN2 := Lib.hid (HNx.out (fun _ => (HB.out.seen k0 hkl).1 hc))
                        clear hc
                        generalize c k0 = ck at *
                        go_wp2
                        go_roundw
                        case rel => exact ⟨k0 + 1, m, c, Q, v, ad, cp, by omega, by go_num, by trivial, by first | rfl | trivial, hqm, hm8, HL, HB, HI0, HN2, HSv, HT, HO⟩
                        case measure => simp [intOf]; omega
                    · have hke : k0 = k := by omega
                      subst hke
                      have HB2 : Hid (Bq k0 s X Y c Q (q + 1)) := Lib.hid (HB.out.next (by rw [HL.out]; exact hqm) (by rw [HI0.out]; exact HNs.out) (fun k' hk' he => HN.out k' hk' (by rw [HI0.out] at he; exact he)))
                      go_wp2
                      go_roundw
                      case rel => exact ⟨q + 1, m, c, Q, v, ad, cp, by trivial, by go_num, by trivial, by first | rfl | trivial, by omega, hm8, HL, HB2, HSv, HT, HO⟩
                      case measure => simp [intOf]; omega
            · have hqe : q = m := by omega
              obtain ⟨U, hU1, hU2⟩ := HB.out.bars (by rw [HL.out]; omega) HX.out HY.out HS.out.1 HS.out.2.1 HS.out.2.2
              have HA : Hid (∀ b : Nat, GrAns k s X Y (.tuple #[.int .i64 s, .int .i64 b, .bool false])) := Lib.hid (fun b => .inr ⟨b, rfl, U, hU1, hU2⟩)
              clear hU1 hU2 HB HL HSv HO
              subst hqe
              go_wp2
              go_loopw [21, 154] (fun bv i wr => ∃ (b i' : Nat), i' ≤ k ∧ bv = .int .i64 b ∧ i = .int .i64 i' ∧ wr = v.val ∧ b < 256) (fun _ i _ => k - (intOf i).toNat)
              case atStart => exact ⟨0, 0, by omega, by first | rfl | go_num, by first | rfl | go_num, rfl, by omega⟩
              case round =>
                obtain ⟨b, i', hi', rfl, rfl, rfl, hb8⟩ := hrel
                by_cases hik : i' < k
                · have f1 := HT.out.cell hik
                  have hbe := bit_lt i' (by omega)
                  have bce := bit_cast i'
                  have we := IntWalk.i64_in (bit i' : Int) (by omega)
                  have oe := i64_or b (bit i') (by omega) (by omega)
                  have hol : b ||| bit i' < 256 := or_lt _ _ hb8 (by omega)
                  rcases ieq (c i') (-2) with ⟨hc, d1, d2⟩ | ⟨hc, d1, d2⟩
                  · clear hc
                    generalize b ||| bit i' = bo at *
                    generalize c i' = ci at *
                    go_wp2
                    go_roundw
                    case rel => exact ⟨bo, i' + 1, by omega, by trivial, by go_num, by first | rfl | trivial, hol⟩
                    case measure => simp [intOf]; omega
                  · clear hc
                    generalize c i' = ci at *
                    go_wp2
                    go_roundw
                    case rel => exact ⟨b, i' + 1, by omega, by trivial, by go_num, by first | rfl | trivial, hb8⟩
                    case measure => simp [intOf]; omega
                · have hike : i' = k := by omega
                  subst hike
                  go_wp2
                  go_ret3
                  exact RetP.of (HV.out v) (HA.out b)

end Go.Proofs.Ytenbeiafdiifgaa
