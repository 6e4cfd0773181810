
/-
  links.pipes.more: a shortest way through a net, if there is one.
  Labels that edges spread: each vertex ends with the least one of its part. No program in sight.
-/
import Derived.Test.YtnhpefcjgaimeaaPk06
import Derived.Test.YtnhpefcjgaimeaaPk20
import Derived.Test.YtnhpefcjgaimeaaPk19
import Derived.Deep.CutRange
import Derived.Test.YtnhpefcjgaimeaaPk13
namespace Go.Proofs.Ytnhpefcjgaimeaa
open Go.RowKit
set_option linter.unusedVariables false

set_option maxRecDepth 100000 in
set_option maxHeartbeats 8000000 in
theorem c_more {B : Nat} {W : World} (u : Later B W) (g N : Nat) (hN : 1 < N) (hN2 : N ≤ 20) (r : Nat → Nat) (P : Nat → Nat → Int) (hG : Grid B u.val g N N r P) (hok : NetOk N P) :
    Calls Try.prog 35 #[.slice (some ⟨g, 0, none⟩) N N] u.val (RetP B W (fun v w => ∃ (b : Bool) (P' : Nat → Nat → Int), v = .bool b ∧ Grid B w g N N r P' ∧ More N P b P')) := by
  have HOK := Lib.hid hok
  have hmk := mk_tab N (by omega)
  have hBu := u.size
  clear hok
  go_enter Try.func35, Try.ntmps35
  go_upto_region 2 with fail
  have HG0 : Hid (Grid B (u.val.alloc (.cells (madeCells #[Value.int .i64 0] N) 3)) g N N r P) := Lib.hid (hG.keep ((Below.refl _ _).alloc (Nat.le_refl _) _))
  have HT0 : Hid (ITab (u.val.alloc (.cells (madeCells #[Value.int .i64 0] N) 3)) u.val.heap.size N (fun j => if j < 0 then -1 else 0)) := Lib.hid ((ITab.made u.val N).congr (fun j _ => by rw [if_neg (by omega)]))
  have hgc : g < u.val.heap.size := hG.lt
  have HRc : Hid (∀ i, i < N → r i < u.val.heap.size) := Lib.hid (fun i hi => hG.rlt hi)
  obtain ⟨z0, hz0⟩ : ∃ z : Later B W, z.val = (u.val.alloc (.cells (madeCells #[Value.int .i64 0] N) 3)) := ⟨u.alloc _, rfl⟩
  rw [← hz0] at HG0 HT0 ⊢
  clear hz0 hmk hG
  generalize u.val.heap.size = gc at *
  clear u
  go_wp2
  go_loopw [15] (fun i wr => ∃ (k : Nat) (v : Later B W), k ≤ N ∧ i = .int .i64 k ∧ wr = v.val ∧ Hid (ITab v.val gc N (fun j => if j < k then -1 else 0)) ∧ Hid (Grid B v.val g N N r P)) (fun i _ => N - (intOf i).toNat)
  case atStart => exact ⟨0, z0, by omega, rfl, rfl, HT0, HG0⟩
  case round =>
    clear z0 HT0 HG0
    obtain ⟨k, v, hk, rfl, rfl, HT, HG⟩ := hrel
    by_cases hlt : k < N
    · have fz := HT.out.frozen k
      obtain ⟨ov, hov⟩ : ∃ o : Int, v.val.cell? ⟨gc, k, none⟩ = some (.int .i64 o) := ⟨_, HT.out.cell hlt⟩
      have HT2 : Hid (ITab (v.val.setCell ⟨gc, k, none⟩ (.int .i64 (-1))) gc N (fun j => if j < k + 1 then -1 else 0)) := Lib.hid (HT.out.set k _ (fun j hj => by
        by_cases c : j = k
        · subst c; simp
        · rw [if_neg c]
          by_cases c2 : j < k
          · rw [if_pos c2, if_pos (by omega)]
          · rw [if_neg c2, if_neg (by omega)]))
      have HG2 : Hid (Grid B (v.val.setCell ⟨gc, k, none⟩ (.int .i64 (-1))) g N N r P) := Lib.hid (HG.out.other (by omega) (fun i hi => by have := HRc.out i hi; omega) _)
      go_wp2
      go_roundw
      case rel => exact ⟨k+1, v.set ⟨gc, k, none⟩ hBu _, by omega, by go_num, rfl, HT2, HG2⟩
      case measure => simp [intOf]; omega
    · have hke : Hid (k = N) := Lib.hid (by omega)
      have fz := HT.out.frozen 0
      obtain ⟨ov, hov⟩ : ∃ o : Int, v.val.cell? ⟨gc, 0, none⟩ = some (.int .i64 o) := ⟨_, HT.out.cell (by omega)⟩
      go_upto_region 9 with fail
      clear fz hov ov
      have HT1 : Hid (ITab ((v.val.setCell ⟨gc, 0, none⟩ (.int .i64 0)).alloc (.cells #[.int .i64 0] 3)) gc N (fun j => if j = 0 then 0 else -1)) := Lib.hid ((HT.out.set 0 0 (A' := fun j => if j = 0 then 0 else -1) (fun j hj => by
        by_cases c : j = 0
        · rw [if_pos c, if_pos c]
        · rw [if_neg c, if_neg c, hke.out, if_pos hj])).keep ((Below.refl _ _).alloc (Nat.le_refl _) _))
      have HG1 : Hid (Grid B ((v.val.setCell ⟨gc, 0, none⟩ (.int .i64 0)).alloc (.cells #[.int .i64 0] 3)) g N N r P) := Lib.hid ((HG.out.other (b := gc) (i := 0) (by omega) (fun i hi => by have := HRc.out i hi; omega) _).keep ((Below.refl _ _).alloc (Nat.le_refl _) _))
      have hgl := HT.out.lt
      have hsz : (v.val.setCell ⟨gc, 0, none⟩ (.int .i64 0)).heap.size = v.val.heap.size := by simp
      have HO1 : Hid (Own (gc + 1) ((v.val.setCell ⟨gc, 0, none⟩ (.int .i64 0)).alloc (.cells #[.int .i64 0] 3)) (some ⟨v.val.heap.size, 0, none⟩) 1 (ints [0])) := Lib.hid (by
        have := Own.lit (B := gc + 1) (w := v.val.setCell ⟨gc, 0, none⟩ (.int .i64 0)) (by rw [hsz]; omega) 0
        rwa [hsz] at this)
      obtain ⟨z1, hz1⟩ : ∃ z : Later B W, z.val = ((v.val.setCell ⟨gc, 0, none⟩ (.int .i64 0)).alloc (.cells #[.int .i64 0] 3)) := ⟨(v.set ⟨gc, 0, none⟩ hBu _).alloc _, rfl⟩
      rw [← hz1] at HT1 HG1 HO1 ⊢
      have HF1 : Hid (Bfs N P [0] (fun j => if j = 0 then 0 else -1) 0 0) := Lib.hid (Bfs.start (by omega) P _ (fun v _ => rfl))
      clear hz1 hke HT HG hsz hgl
      generalize v.val.heap.size = gq at *
      go_wp2
      go_loopw [5, 6] (fun q at_ wr => ∃ (d : Nat) (Q : List Nat) (C : Nat → Int) (ad : Option Addr) (cp : Nat) (v : Later B W), d ≤ Q.length ∧ at_ = .int .i64 d ∧ q = .slice ad (ints Q).length cp ∧ wr = v.val ∧ Hid (Own (gc + 1) v.val ad cp (ints Q)) ∧ Hid (ITab v.val gc N C) ∧ Hid (Grid B v.val g N N r P) ∧ Hid (Bfs N P Q C d 0)) (fun _ i _ => N - (intOf i).toNat)
      case atStart => exact ⟨0, [0], _, _, _, z1, by omega, rfl, rfl, rfl, HO1, HT1, HG1, HF1⟩
      case round =>
        clear z1 HT1 HG1 HO1 HF1
        obtain ⟨d, Q, C, ad, cp, v, hd, rfl, rfl, rfl, HO, HT, HG, HF⟩ := hrel
        have hQN := HF.out.len
        have cq1 : v.val.cell? ⟨gc, 1, none⟩ = some (.int .i64 (C 1)) := HT.out.cell (by omega)
        have HLQ : Hid ((ints Q).length = Q.length) := Lib.hid (ints_len Q)
        rcases ilt (C 1) 0 with ⟨h1, d1⟩ | ⟨h1, d1⟩
        · by_cases hlt : d < Q.length
          · have d2 : decide (d < (ints Q).length) = true := by rw [HLQ.out]; simpa using hlt
            obtain ⟨bq, offq, hadq, hbq, hcq⟩ := HO.out.reads.at (k := d) (by rw [HLQ.out]; exact hlt)
            subst hadq
            have cqd : v.val.cell? ⟨bq, offq + d, none⟩ = some (.int .i64 ((Q.getD d 0 : Nat) : Int)) := by rw [← ints_getD]; exact hcq (Later.self _) d (by rw [HLQ.out]; exact hlt)
            have hx := HF.out.lt d hlt
            have hx0 : Hid (Q.getD d 0 = Q.getD d 0) := Lib.hid rfl
            generalize hxe : Q.getD d 0 = x at cqd hx
            have HX := Lib.hid hxe
            clear hxe hx0 hcq hbq
            have ctx := HG.out.tcell hx
            have hlq : d < (ints Q).length := by rw [HLQ.out]; exact hlt
            have HDQ := Lib.hid hlt
            clear hlt
            clear HLQ
            go_wp2
            go_loopw [5, 45] (fun q k_ wr => ∃ (k : Nat) (Q : List Nat) (C : Nat → Int) (ad : Option Addr) (cp : Nat) (v : Later B W), k ≤ N ∧ k_ = .int .i64 k ∧ q = .slice ad (ints Q).length cp ∧ wr = v.val ∧ Hid (Own (gc + 1) v.val ad cp (ints Q)) ∧ Hid (ITab v.val gc N C) ∧ Hid (Grid B v.val g N N r P) ∧ Hid (Bfs N P Q C d k) ∧ Hid (d < Q.length) ∧ Hid (Q.getD d 0 = x)) (fun _ i _ => N - (intOf i).toNat)
            case atStart => exact ⟨0, Q, C, _, _, v, by omega, rfl, rfl, rfl, HO, HT, HG, HF, HDQ, HX⟩
            case round =>
              clear HO HT HG HF HDQ HX cqd cq1 d1 d2 h1 hlq ctx hQN hd v
              obtain ⟨k, Q, C, ad, cp, v, hk, rfl, rfl, rfl, HO, HT, HG, HF, HDQ, HX⟩ := hrel
              have hQN := HF.out.len
              have HLQ : Hid ((ints Q).length = Q.length) := Lib.hid (ints_len Q)
              by_cases hkN : k < N
              · have cP : v.val.cell? ⟨r x, k, none⟩ = some (.int .i64 (P x k)) := HG.out.cell hx hkN
                have cC : v.val.cell? ⟨gc, k, none⟩ = some (.int .i64 (C k)) := HT.out.cell hkN
                rcases ilt 0 (P x k) with ⟨g1, e1⟩ | ⟨g1, e1⟩
                · rcases ilt (C k) 0 with ⟨g2, e2⟩ | ⟨g2, e2⟩
                  · obtain ⟨bq, offq, hadq, hbq, hcq⟩ := HO.out.reads.at (k := d) (by rw [HLQ.out]; exact HDQ.out)
                    subst hadq
                    have cqd : v.val.cell? ⟨bq, offq + d, none⟩ = some (.int .i64 (x : Int)) := by rw [← HX.out, ← ints_getD]; exact hcq (Later.self _) d (by rw [HLQ.out]; exact HDQ.out)
                    have fz := HT.out.frozen k
                    have HF2 : Hid (Bfs N P (Q ++ [k]) (fun j => if j = k then (x : Int) else C j) d (k + 1)) := Lib.hid (HF.out.find HDQ.out hkN (by rw [HX.out]; exact g1) g2 (fun v _ => by rw [HX.out]))
                    have HT2 : Hid (ITab (v.val.setCell ⟨gc, k, none⟩ (.int .i64 (x : Int))) gc N (fun j => if j = k then (x : Int) else C j)) := Lib.hid (HT.out.set k _ (fun j _ => rfl))
                    have HG2 : Hid (Grid B (v.val.setCell ⟨gc, k, none⟩ (.int .i64 (x : Int))) g N N r P) := Lib.hid (HG.out.other (by omega) (fun i hi => by have := HRc.out i hi; omega) _)
                    have HO2 : Hid (Own (gc + 1) (v.val.setCell ⟨gc, k, none⟩ (.int .i64 (x : Int))) (some ⟨bq, offq, none⟩) cp (ints Q)) := Lib.hid (HO.out.set (by omega) _)
                    have hlq : d < (ints Q).length := by rw [HLQ.out]; exact HDQ.out
                    have HL20 : Hid ((ints Q).length ≤ 20) := Lib.hid (by rw [HLQ.out]; omega)
                    have HDQ2 : Hid (d < (Q ++ [k]).length) := Lib.hid (by have := HDQ.out; simp; omega)
                    have HX2 : Hid ((Q ++ [k]).getD d 0 = x) := Lib.hid (by rw [getD_snoc_lt HDQ.out]; exact HX.out)
                    have HE : Hid (ints (Q ++ [k]) = ints Q ++ [(k : Int)]) := Lib.hid (ints_snoc Q k)
                    have HSz : Hid (gc + 1 ≤ (v.val.setCell ⟨gc, k, none⟩ (.int .i64 (x : Int))).heap.size) := Lib.hid (HT2.out.lt)
                    obtain ⟨v1, hv1⟩ : ∃ v1 : Later B W, v1.val = v.val.setCell ⟨gc, k, none⟩ (.int .i64 (x : Int)) := ⟨v.set ⟨gc, k, none⟩ hBu _, rfl⟩
                    generalize P x k = y at *
                    generalize C k = c at *
                    clear HF HT HG HO HDQ HX hcq hbq HLQ hQN
                    go_wp2_with (first | (at_builtin; refine wpList_push (B := gc + 1) (W := v.val.setCell ⟨gc, k, none⟩ (.int .i64 (x : Int))) (w := v.val.setCell ⟨gc, k, none⟩ (.int .i64 (x : Int))) (Below.refl _ _) HSz.out rfl _ _ rfl (ints Q) (some ⟨bq, offq, none⟩) cp (k : Int) rfl HO2.out (by rw [World.size_setCell]; rfl) (by have := HL20.out; omega) ?_; intro u2 ad2 cp2 hown))
                    go_roundw
                    case rel =>
                      refine ⟨k+1, Q ++ [k], _, ad2, cp2, (v.set ⟨gc, k, none⟩ hBu _).to u2.val (u2.below.mono (by omega)), by omega, by go_num, ?_, rfl, ?_, Lib.hid (HT2.out.keep_at u2.below (by omega)), Lib.hid (HG2.out.keep_at u2.below (by omega) (fun i hi => by have := HRc.out i hi; omega)), HF2, HDQ2, HX2⟩
                      · rw [HE.out]; simp
                      · rw [HE.out]; exact Lib.hid hown
                    case measure => simp [intOf]; omega
                  · have HF2 : Hid (Bfs N P Q C d (k + 1)) := Lib.hid (HF.out.skip hkN (fun h => by omega))
                    generalize P x k = y at *
                    generalize C k = c at *
                    clear HF
                    go_wp2
                    go_roundw
                    case rel => exact ⟨k+1, Q, C, ad, cp, v, by omega, by go_num, rfl, rfl, HO, HT, HG, HF2, HDQ, HX⟩
                    case measure => simp [intOf]; omega
                · have HF2 : Hid (Bfs N P Q C d (k + 1)) := Lib.hid (HF.out.skip hkN (fun h => by rw [HX.out] at h; omega))
                  generalize P x k = y at *
                  clear HF
                  go_wp2
                  go_roundw
                  case rel => exact ⟨k+1, Q, C, ad, cp, v, by omega, by go_num, rfl, rfl, HO, HT, HG, HF2, HDQ, HX⟩
                  case measure => simp [intOf]; omega
              · have hke : k = N := by omega
                subst hke
                have HF2 := Lib.hid HF.out.next
                have hdq := HDQ.out
                go_wp2
                go_roundw
                case rel => exact ⟨d+1, Q, C, ad, cp, v, by omega, by go_num, rfl, rfl, HO, HT, HG, HF2⟩
                case measure => simp [intOf]; omega
          · have hde : d = Q.length := by omega
            have d2 : decide (d < (ints Q).length) = false := by rw [HLQ.out]; simpa using hlt
            have HM : Hid (More N P false P) := Lib.hid (HF.out.no hN hde h1 HOK.out)
            clear hde HLQ
            generalize (ints Q).length = lq at *
            generalize C 1 = c at *
            go_wp2
            go_ret
            exact RetP.mk v ⟨false, P, rfl, HG.out, HM.out⟩
        · obtain ⟨i0, hi0, hq0, hbk0⟩ := HF.out.bk HOK.out hN (by omega)
          have HI0 := Lib.hid hi0
          have HQ0 := Lib.hid hq0
          have HB0 := Lib.hid hbk0
          clear hi0 hq0 hbk0
          generalize hc1 : C 1 = c at h1 d1 cq1
          have HLl := Lib.hid HLQ.out
          clear HLQ
          generalize hlq : (ints Q).length = lq at *
          rcases nlt d lq with ⟨h2, d2⟩ | ⟨h2, d2⟩
          all_goals
            go_wp2
            go_loopw [9] (fun k_ wr => ∃ (i : Nat) (P' : Nat → Nat → Int) (v : Later B W), i < Q.length ∧ k_ = .int .i64 (Q.getD i 0 : Nat) ∧ wr = v.val ∧ Hid (ITab v.val gc N C) ∧ Hid (Grid B v.val g N N r P') ∧ Hid (Bk N P Q C i P')) (fun k_ _ => posOf Q (intOf k_).toNat)
            case atStart => exact ⟨i0, P, v, HI0.out, by rw [HQ0.out]; rfl, rfl, HT, HG, HB0⟩
            case round =>
              clear HT HG HB0 HI0 HQ0 hc1 cq1 d1 d2 h1 h2 HLl HO
              obtain ⟨i, P', v, hi, rfl, rfl, HT, HG, HB⟩ := hrel
              by_cases hi0 : i = 0
              · have HM : Hid (More N P true P') := Lib.hid (HB.out.yes HF.out HOK.out ((HF.out.zero hi).2 hi0))
                have hz := (HF.out.zero hi).2 hi0
                rw [hz]
                clear hz hi0
                go_wp2
                go_ret
                exact RetP.mk v ⟨true, P', rfl, HG.out, HM.out⟩
              · obtain ⟨j, hj, hC, hne, hjN, hiN, hB2⟩ := HB.out.step HF.out (by omega)
                have HB2 := Lib.hid hB2
                have hpj : posOf Q (Q.getD j 0) = j := posOf_eq HF.out (by omega)
                have hpi : posOf Q (Q.getD i 0) = i := posOf_eq HF.out hi
                have HPM : Hid (posOf Q (Q.getD j 0) < posOf Q (Q.getD i 0)) := Lib.hid (by rw [hpj, hpi]; exact hj)
                have hx0 : Q.getD i 0 ≠ 0 := fun e => hi0 ((HF.out.zero hi).1 e)
                have hjQ : Hid (j < Q.length) := Lib.hid (by omega)
                have hok2 := HB.out.ok HOK.out
                have HJ : Hid (Q.getD j 0 = Q.getD j 0) := Lib.hid rfl
                clear hB2 hpj hpi hj hi0 hi
                generalize hxe : Q.getD i 0 = x at *
                generalize hye : Q.getD j 0 = y at hC hne hjN HB2 HPM
                have HYE := Lib.hid hye
                clear hxe hye HJ
                have b1 : ((x : Int) != 0) = true := by rw [bne_iff_ne]; omega
                have b2 : (x != 0) = true := by rw [bne_iff_ne]; omega
                have cC : v.val.cell? ⟨gc, x, none⟩ = some (.int .i64 (y : Int)) := by rw [← hC]; exact HT.out.cell hiN
                have cy := HG.out.tcell hjN
                have cyx := HG.out.cell hjN hiN
                have fyx := HG.out.fz hjN x
                have hz1 := hok2.le hjN hiN
                have hz2 := hok2.le hiN hjN
                -- behind the first store
                have HG1 : Hid (Grid B (v.val.setCell ⟨r y, x, none⟩ (.int .i64 (P' y x - 1))) g N N r (updM P' y x (-1))) := Lib.hid ((HG.out.set hjN x (P' y x - 1)).congr (fun a b _ _ => by
                  unfold setM updM
                  by_cases c : a = y ∧ b = x
                  · obtain ⟨rfl, rfl⟩ := c; rw [if_pos ⟨rfl, rfl⟩, if_pos ⟨rfl, rfl⟩]; omega
                  · rw [if_neg c, if_neg c]))
                have HT1 : Hid (ITab (v.val.setCell ⟨r y, x, none⟩ (.int .i64 (P' y x - 1))) gc N C) := Lib.hid (HT.out.other (by have := HRc.out y hjN; omega) _)
                obtain ⟨v1, hv1⟩ : ∃ v1 : Later B W, v1.val = v.val.setCell ⟨r y, x, none⟩ (.int .i64 (P' y x - 1)) := ⟨v.set ⟨r y, x, none⟩ (HG.out.br y hjN) _, rfl⟩
                go_upto_region 25 with fail
                rw [← hv1] at HG1 HT1 ⊢
                have e0 : ∀ w : Later v1.val.heap.size v1.val, w.val.cell? ⟨g, x, none⟩ = some (.slice (some ⟨r x, 0, none⟩) N N) := fun w => (HG1.out.keep w.below).tcell hiN
                have e1 : ∀ w : Later v1.val.heap.size v1.val, w.val.cell? ⟨gc, x, none⟩ = some (.int .i64 (y : Int)) := fun w => by rw [← hC]; exact (HT1.out.keep w.below).cell hiN
                have e2 : ∀ w : Later v1.val.heap.size v1.val, w.val.cell? ⟨r x, y, none⟩ = some (.int .i64 (P' x y)) := fun w => by
                  have := (HG1.out.keep w.below).cell hiN hjN
                  rwa [updM_ne _ _ (by rintro ⟨e, _⟩; exact hne e.symm)] at this
                have e3 : ∀ w : Later v1.val.heap.size v1.val, w.val.frozen? ⟨r x, y, none⟩ = false := fun w => (HG1.out.keep w.below).fz hiN y
                have w1 := IntWalk.i64_in (P' x y + 1) (by omega)
                have HG2 : Hid (∀ w : Later v1.val.heap.size v1.val, Grid B (w.val.setCell ⟨r x, y, none⟩ (.int .i64 (P' x y + 1))) g N N r (stepM P' y x)) := Lib.hid (fun w => ((HG1.out.keep w.below).set hiN y (P' x y + 1)).congr (fun a b _ _ => by
                  unfold stepM
                  unfold setM
                  by_cases c : a = x ∧ b = y
                  · obtain ⟨rfl, rfl⟩ := c; rw [if_pos ⟨rfl, rfl⟩, updM_at, updM_ne _ _ (by rintro ⟨e, _⟩; exact hne e.symm)]
                  · rw [if_neg c, updM_ne _ _ c]))
                have HT2 : Hid (∀ w : Later v1.val.heap.size v1.val, ITab (w.val.setCell ⟨r x, y, none⟩ (.int .i64 (P' x y + 1))) gc N C) := Lib.hid (fun w => (HT1.out.keep w.below).other (by have := HRc.out x hiN; omega) _)
                have hbx : B ≤ r x := HG1.out.br x hiN
                have e4 : ∀ w : Later v1.val.heap.size v1.val, (w.val.setCell ⟨r x, y, none⟩ (.int .i64 (P' x y + 1))).cell? ⟨gc, x, none⟩ = some (.int .i64 (y : Int)) := fun w => by rw [← hC]; exact (HT2.out w).cell hiN
                clear hz1 hz2 hok2 cC cy cyx fyx HG HT HB hv1 v
                generalize P' x y = q at *
                go_wp2
                refine wp_region_later_tail (Later.self v1.val) 11 (by kernel_rfl) (by kernel_rfl) (fun v2 => ?_)
                simp only [List.take_succ_cons, List.take_zero, List.drop_succ_cons, List.drop_zero]
                repeat still_step
                refine wpStill_nil ?_
                have e4' := e4 v2
                go_wp2
                go_roundw
                case rel => exact ⟨j, _, (v1.up v2).set ⟨r x, y, none⟩ hbx _, hjQ.out, by rw [HYE.out], rfl, Lib.hid (HT2.out v2), Lib.hid (HG2.out v2), HB2⟩
                case measure => have := HPM.out; simpa [intOf] using this

end Go.Proofs.Ytnhpefcjgaimeaa

namespace Go.Proofs.Ytnhpefcjgaimeaa
set_option linter.unusedVariables false

def lblE (es : List (Int × Int)) (x : Nat) (p : Nat → Nat) : Nat → Nat → Nat
  | 0 => p
  | k + 1 => fun j => if x.testBit k = true ∧ (j = vA es k ∨ j = vB es k) then min (lblE es x p k (vA es k)) (lblE es x p k (vB es k)) else lblE es x p k j
def lblT (es : List (Int × Int)) (x : Nat) : Nat → Nat → Nat
  | 0 => fun j => j
  | k + 1 => lblE es x (lblT es x k) es.length
theorem lblE_succ (es : List (Int × Int)) (x : Nat) (p : Nat → Nat) (k j : Nat) : lblE es x p (k+1) j = if x.testBit k = true ∧ (j = vA es k ∨ j = vB es k) then min (lblE es x p k (vA es k)) (lblE es x p k (vB es k)) else lblE es x p k j := rfl
theorem lblE_step (es : List (Int × Int)) (x : Nat) (p : Nat → Nat) (k j : Nat) : lblE es x p (k+1) j ≤ lblE es x p k j := by
  rw [lblE_succ]
  split
  · rename_i h
    rcases h.2 with rfl | rfl <;> omega
  · exact Nat.le_refl _
theorem lblE_mono (es : List (Int × Int)) (x : Nat) (p : Nat → Nat) (j : Nat) {k l : Nat} (h : k ≤ l) : lblE es x p l j ≤ lblE es x p k j := by
  induction l with
  | zero => have : k = 0 := by omega
            subst this; exact Nat.le_refl _
  | succ l ih =>
    by_cases e : k = l + 1
    · subst e; exact Nat.le_refl _
    · have := ih (by omega)
      have := lblE_step es x p l j
      omega
theorem lblE_jn {es : List (Int × Int)} {x : Nat} {p : Nat → Nat} (h : ∀ j, Jn es x j (p j)) : ∀ k, k ≤ es.length → ∀ j, Jn es x j (lblE es x p k j) := by
  intro k
  induction k with
  | zero => intro _ j; exact h j
  | succ k ih =>
    intro hk j
    have h1 := ih (by omega)
    rw [lblE_succ]
    split
    · rename_i hh
      have he := Jn.edge (es := es) (x := x) (show k < es.length by omega) hh.1
      have hA := h1 (vA es k)
      have hB := h1 (vB es k)
      rcases Nat.le_total (lblE es x p k (vA es k)) (lblE es x p k (vB es k)) with g | g
      · rw [Nat.min_eq_left g]
        rcases hh.2 with rfl | rfl
        · exact hA
        · exact he.symm.trans hA
      · rw [Nat.min_eq_right g]
        rcases hh.2 with rfl | rfl
        · exact he.trans hB
        · exact hB
    · exact h1 j
theorem lblT_jn (es : List (Int × Int)) (x : Nat) : ∀ k j, Jn es x j (lblT es x k j) := by
  intro k
  induction k with
  | zero => intro j; exact Jn.refl _ _ _
  | succ k ih => exact lblE_jn ih _ (Nat.le_refl _)

theorem chain_full {T : Nat → Nat} {C n : Nat} (h8 : ∀ k, T k < 256) (hC : C < 256) (hsub : ∀ k, sub (T k) C) (hgrow : ∀ k, sub (T k) (T (k+1))) (h0 : 1 ≤ sz (T 0)) (hstop : ∀ k, T (k+1) = T k → sub C (T k)) (hn : sz C ≤ n) : T n = C := by
  have hdone : ∀ k, T (k+1) = T k → T k = C := fun k hk => eq_of_bits (h8 k) hC (fun i hi => by rw [Bool.eq_iff_iff]; exact ⟨hsub k i, hstop k hk i⟩)
  have hkeep : ∀ k, T k = C → T (k+1) = C := fun k hk => by
    have h1 := hgrow k
    rw [hk] at h1
    exact eq_of_bits (h8 _) hC (fun i hi => by rw [Bool.eq_iff_iff]; exact ⟨hsub _ i, h1 i⟩)
  have hmain : ∀ k, T k = C ∨ k + 1 ≤ sz (T k) := by
    intro k
    induction k with
    | zero => exact .inr h0
    | succ k ih =>
      rcases ih with h | h
      · exact .inl (hkeep k h)
      · by_cases c : T (k+1) = T k
        · exact .inl (by rw [c]; exact hdone k c)
        · right
          have := sub_size (h8 (k+1)) (hgrow k) (fun g => c g.symm)
          omega
  rcases hmain n with h | h
  · exact h
  · have := sz_mono (hsub n)
    omega

theorem lblT_rep {n : Nat} {es : List (Int × Int)} (hG : Grf n es) {x i r : Nat} (hi : i < n) (hr : Rep es x r) (hj : Jn es x i r) : lblT es x n i = r := by
  have hn7 := hG.n7
  have hri : r ≤ i := hr i hj.symm
  obtain ⟨C, hC⟩ := Part.ex es x r
  have hCn : sub C (bit n - 1) := fun j hj => by
    have hsh : Shut es x (bit n - 1) := fun k hk hx => by
      rw [testBit_all, testBit_all]
      have := hG.lt k hk
      simp [this.1, this.2]
    exact hC.within hsh (by rw [testBit_all]; simp; omega) j hj
  have hsz : sz C ≤ n := by have := sz_mono hCn; rwa [sz_all (by omega)] at this
  have hT : ∀ k, ∃ T, T < 256 ∧ ∀ j, j < 8 → (T.testBit j = true ↔ j < n ∧ lblT es x k j = r) := fun k => exists_set _
  let T : Nat → Nat := fun k => Classical.choose (hT k)
  have hT8 : ∀ k, T k < 256 := fun k => (Classical.choose_spec (hT k)).1
  have hTb : ∀ k j, j < 8 → ((T k).testBit j = true ↔ j < n ∧ lblT es x k j = r) := fun k => (Classical.choose_spec (hT k)).2
  have hmin : ∀ p : Nat → Nat, (∀ j, Jn es x j (p j)) → ∀ j, Jn es x j r → r ≤ p j := fun p hp j hj => hr _ (hj.symm.trans (hp j))
  have hfull : T n = C := by
    refine chain_full hT8 hC.1 (fun k j hj => ?_) (fun k j hj => ?_) ?_ (fun k hk => ?_) hsz
    · have h8 := lt_of_testBit (hT8 k) hj
      have := (hTb k j h8).1 hj
      exact (hC.2 j h8).2 (by have h := lblT_jn es x k j; rw [this.2] at h; exact h.symm)
    · have h8 := lt_of_testBit (hT8 k) hj
      have h1 := (hTb k j h8).1 hj
      refine (hTb (k+1) j h8).2 ⟨h1.1, ?_⟩
      have hJ : Jn es x j r := by have h := lblT_jn es x k j; rw [h1.2] at h; exact h
      have h2 := hmin _ (lblT_jn es x (k+1)) j hJ
      have h3 : lblT es x (k+1) j ≤ lblT es x k j := lblE_mono es x (lblT es x k) j (Nat.zero_le _)
      omega
    · have h1 : (T 0).testBit r = true := (hTb 0 r (by omega)).2 ⟨by omega, rfl⟩
      have h2 : sub (bit r) (T 0) := fun j hj => by
        rw [testBit_bit, decide_eq_true_eq] at hj
        subst hj; exact h1
      have := sz_mono h2
      rw [sz_bit (by omega)] at this
      exact this
    · have hpull : ∀ e, e < es.length → x.testBit e = true → ∀ a b, (a = vA es e ∧ b = vB es e) ∨ (a = vB es e ∧ b = vA es e) → (T k).testBit a = true → (T k).testBit b = true := fun e he hx a b hab ha => by
        have hlt := hG.lt e he
        have hbn : b < n := by rcases hab with ⟨_, rfl⟩ | ⟨_, rfl⟩ <;> omega
        have han : a < n := by rcases hab with ⟨rfl, _⟩ | ⟨rfl, _⟩ <;> omega
        rw [← hk]
        have h1 := (hTb k a (by omega)).1 ha
        refine (hTb (k+1) b (by omega)).2 ⟨hbn, ?_⟩
        have hJa : Jn es x a r := by have h := lblT_jn es x k a; rw [h1.2] at h; exact h
        have hJab : Jn es x a b := by
          have h := Jn.edge (es := es) (x := x) he hx
          rcases hab with ⟨rfl, rfl⟩ | ⟨rfl, rfl⟩
          · exact h
          · exact h.symm
        have hJb : Jn es x b r := hJab.symm.trans hJa
        have h2 := hmin _ (lblT_jn es x (k+1)) b hJb
        have h3 : lblT es x (k+1) b ≤ lblE es x (lblT es x k) (e+1) b := lblE_mono es x (lblT es x k) b (by omega)
        have h4 : lblE es x (lblT es x k) e a ≤ lblT es x k a := lblE_mono es x (lblT es x k) a (Nat.zero_le _)
        have h5 : lblE es x (lblT es x k) (e+1) b ≤ lblE es x (lblT es x k) e a := by
          show (if x.testBit e = true ∧ (b = vA es e ∨ b = vB es e) then min (lblE es x (lblT es x k) e (vA es e)) (lblE es x (lblT es x k) e (vB es e)) else _) ≤ _
          rw [if_pos ⟨hx, by rcases hab with ⟨_, h⟩ | ⟨_, h⟩; exact .inr h; exact .inl h⟩]
          rcases hab with ⟨rfl, _⟩ | ⟨rfl, _⟩
          · exact Nat.min_le_left _ _
          · exact Nat.min_le_right _ _
        omega
      have hsh : Shut es x (T k) := fun e he hx => by
        rw [Bool.eq_iff_iff]
        exact ⟨hpull e he hx _ _ (.inl ⟨rfl, rfl⟩), hpull e he hx _ _ (.inr ⟨rfl, rfl⟩)⟩
      have hrT : (T k).testBit r = true := (hTb k r (by omega)).2 ⟨by omega, by
        have h1 := hmin _ (lblT_jn es x k) r (Jn.refl _ _ _)
        have h2 : ∀ k, lblT es x k r ≤ r := by
          intro k
          induction k with
          | zero => exact Nat.le_refl _
          | succ k ih =>
            have : lblT es x (k+1) r ≤ lblT es x k r := lblE_mono es x (lblT es x k) r (Nat.zero_le _)
            omega
        have := h2 k
        omega⟩
      exact hC.within hsh hrT
  have hiC : C.testBit i = true := (hC.2 i (by omega)).2 hj.symm
  rw [← hfull] at hiC
  exact ((hTb n i (by omega)).1 hiC).2

def cntTo (p : Nat → Nat) : Nat → Nat
  | 0 => 0
  | k + 1 => if p k = k then cntTo p k + 1 else cntTo p k
theorem cntTo_bsum (p : Nat → Nat) (k : Nat) : cntTo p k = bsum (fun i => if p i = i then 1 else 0) k := by
  induction k with
  | zero => rfl
  | succ k ih =>
    simp only [bsum, cntTo]
    split <;> omega
theorem bsum_tailL {f : Nat → Nat} {k l : Nat} (h : k ≤ l) (hf : ∀ i, k ≤ i → f i = 0) : bsum f l = bsum f k := by
  induction l with
  | zero => have : k = 0 := by omega
            subst this; rfl
  | succ l ih =>
    by_cases e : k = l + 1
    · subst e; rfl
    · simp only [bsum]
      rw [ih (by omega), hf l (by omega)]
      omega
theorem cntTo_le (p : Nat → Nat) (k : Nat) : cntTo p k ≤ k := by
  induction k with
  | zero => exact Nat.le_refl _
  | succ k ih => unfold cntTo; split <;> omega
theorem isle_is {n : Nat} {es : List (Int × Int)} (hG : Grf n es) {x R : Nat} (hR : Reps n es x R) : cntTo (lblT es x n) n = sz R := by
  have hn7 := hG.n7
  rw [cntTo_bsum, sz_sum, bsum_tailL (k := n) (l := 8) (by omega) (fun i hi => by
    cases c : R.testBit i
    · rfl
    · have := (hR.2 i (lt_of_testBit hR.1 c)).1 c
      omega)]
  refine bsum_congr (fun i hi => ?_)
  obtain ⟨r, h1, h2, h3⟩ := Rep.ex es x i
  have hl := lblT_rep hG hi h2 h3
  rw [hl]
  by_cases c : r = i
  · subst c
    rw [if_pos rfl, (hR.2 r (by omega)).2 ⟨hi, h2⟩]; rfl
  · rw [if_neg c]
    cases d : R.testBit i
    · rfl
    · exact absurd (Rep.one h2 ((hR.2 i (by omega)).1 d).2 h3.symm) c

end Go.Proofs.Ytnhpefcjgaimeaa
