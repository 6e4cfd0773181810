
/-
  axioms.family and its kinds: Independents, Circuits, Flats, Hyperplanes.
  The kinds of sets that axioms.family is asked for: Independents, Circuits, Flats, Hyperplanes.
  axioms.Independents, Circuits, Ranks, Flats, Hyperplanes: of a matroid, and of what is none.
-/
import Derived.Deep.CutRange
import Derived.Deep.CutBlock
import Derived.Test.YtmcffbmhkbijlaaPk06
import Derived.Test.YtmcffbmhkbijlaaPk10
import Derived.Test.YtmcffbmhkbijlaaPk08
namespace Go.Proofs.Ytmcffbmhkbijlaa
open Go.RowKit
set_option linter.unusedVariables false

/-- a result: a list of the call's own, and an error -/
def ListO (B : Nat) (xs : List Int) (e : Int) (v : Value) (w : World) : Prop := ∃ ad cp, v = .tuple #[.slice ad xs.length cp, .int .i64 e] ∧ Own B w ad cp xs
theorem ListO.e {B : Nat} {xs : List Int} {e : Int} {v : Value} {w : World} (h : ListO B xs e v w) : ListE xs e v w := by
  obtain ⟨ad, cp, rfl, ho⟩ := h
  exact ⟨_, rfl, Reads.of_own ho⟩
theorem listE_of {B : Nat} {W : World} {P : Program} {f : FuncId} {args : Array Value} {w : World} {xs : List Int} {e : Int} {B' : Nat} (h : Calls P f args w (RetP B W (ListO B' xs e))) : Calls P f args w (RetP B W (ListE xs e)) := h.mono fun _ _ ⟨v, h1, h2, h3⟩ => ⟨v, h1, h2.e, h3⟩

/-- a function value that tells of a table of ranks and a set whether the set is of a kind -/
def TellsR (B : Nat) (W : World) (m : Nat) (L : List Nat) (k : FuncId) (caps : Array Value) (p : Nat → Bool) : Prop :=
  ∀ (x : Later B W) (g c : Nat), g < x.val.heap.size → ITab x.val g (bit m) (fun j => (rk L j : Int)) → ∀ (v : Later x.val.heap.size x.val) (s : Nat), s < bit m → Calls Try.prog k (#[.slice (some ⟨g, 0, none⟩) (bit m) c, .int .i64 (s : Int)] ++ caps) v.val (Ret x.val.heap.size x.val (.bool (p s)))

set_option maxRecDepth 100000 in
set_option maxHeartbeats 8000000 in
theorem c_axFamilyO {B : Nat} {W : World} (u : Later B W) (m : Nat) (hm : m ≤ 8) (l : List Int) (a : Option Addr) (cap : Nat) (h : IntsAt B W a l) (hlen : l.length ≤ 4611686018427387904) (he : MatIs (m : Int) l 0) (k : FuncId) (caps : Array Value) (p : Nat → Bool) (hpl : Plain k) (hk : TellsR B W m (toN l) k caps p) :
    Calls Try.prog 51 #[.agg #[.int .i64 m, .slice a l.length cap], .func (.func k) #[] caps] u.val (RetP B W (ListO B (ints (those m p)) 0)) := by
  have hb := bit_le m hm
  have T0 : Hid (Two (u.val.alloc (.cells #[.int .i64 m, .slice a l.length cap] 29)) u.val.heap.size 29 (.int .i64 m) (.slice a l.length cap)) := Lib.hid (Two.new _ _ _ _)
  have hI : IntsAt (u.val.alloc (.cells #[.int .i64 m, .slice a l.length cap] 29)).heap.size (u.val.alloc (.cells #[.int .i64 m, .slice a l.length cap] 29)) a l := h.to (u.alloc _)
  have HV : Hid (∀ v : Later (u.val.alloc (.cells #[.int .i64 m, .slice a l.length cap] 29)).heap.size (u.val.alloc (.cells #[.int .i64 m, .slice a l.length cap] 29)), ∃ w : Later B W, w.val = v.val) := Lib.hid (fun v => ⟨(u.alloc _).up v, rfl⟩)
  have HK : Hid (TellsR (u.val.alloc (.cells #[.int .i64 m, .slice a l.length cap] 29)).heap.size (u.val.alloc (.cells #[.int .i64 m, .slice a l.length cap] 29)) m (toN l) k caps p) := Lib.hid (fun x => hk ((u.alloc _).up x))
  have q0 : ∀ w : Later (u.val.alloc (.cells #[.int .i64 m, .slice a l.length cap] 29)).heap.size (u.val.alloc (.cells #[.int .i64 m, .slice a l.length cap] 29)), w.val.cell? ⟨u.val.heap.size, 0, none⟩ = some (.int .i64 m) := fun w => (T0.out.keep w.below).c0
  have q1 : ∀ w : Later (u.val.alloc (.cells #[.int .i64 m, .slice a l.length cap] 29)).heap.size (u.val.alloc (.cells #[.int .i64 m, .slice a l.length cap] 29)), w.val.cell? ⟨u.val.heap.size, 1, none⟩ = some (.slice a l.length cap) := fun w => (T0.out.keep w.below).c1
  have p0 : (u.val.alloc (.cells #[.int .i64 m, .slice a l.length cap] 29)).cell? ⟨u.val.heap.size, 0, none⟩ = some (.int .i64 m) := T0.out.c0
  have p1 : (u.val.alloc (.cells #[.int .i64 m, .slice a l.length cap] 29)).cell? ⟨u.val.heap.size, 1, none⟩ = some (.slice a l.length cap) := T0.out.c1
  have hfam : isFam (m : Int) l := Classical.byContradiction fun hk => by have := he.1 (fun h => hk h.1); omega
  have KC : Hid (Calls Try.prog 32 #[.agg #[.int .i64 m, .slice a l.length cap]] (u.val.alloc (.cells #[.int .i64 m, .slice a l.length cap] 29)) (Ret (u.val.alloc (.cells #[.int .i64 m, .slice a l.length cap] 29)).heap.size (u.val.alloc (.cells #[.int .i64 m, .slice a l.length cap] 29)) (.int .i64 0))) := Lib.hid (c_axCheck (Later.self _) m l a cap 0 hI hlen he)
  have KR := Lib.hid (fun v : Later (u.val.alloc (.cells #[.int .i64 m, .slice a l.length cap] 29)).heap.size (u.val.alloc (.cells #[.int .i64 m, .slice a l.length cap] 29)) => c_axRanks0 v m hm l a cap hI hlen hfam)
  have hp1 : ∀ (args : Array Value) (w : World), (callFunc k args).run Try.prog w = .ok (.enter k args) w := hpl
  clear h hk hI he T0 hfam
  go_enter Try.func51, Try.ntmps51
  go_wp2_with (first | (go_at_call 32; ((with_reducible refine (KC.out).mono ?_); rintro e _ ⟨rfl, v1, rfl⟩)) | (go_at_call 65; ((with_reducible refine (KR.out _).mono ?_); rintro e _ ⟨_, rfl, ⟨g, c, rfl, hT⟩, v1, rfl⟩; have HT := Lib.hid hT; clear hT)))
  have hgl := HT.out.lt
  have HK2 : Hid (TellsR v1.val.heap.size v1.val m (toN l) k caps p) := Lib.hid (fun x => HK.out (v1.up x))
  have HVB : Hid (∀ v : Later v1.val.heap.size v1.val, ∃ w : Later B W, w.val = v.val) := Lib.hid (fun v => HV.out (v1.up v))
  have HBV : Hid (B ≤ v1.val.heap.size) := Lib.hid (by obtain ⟨w, hw⟩ := HV.out v1; rw [← hw]; exact w.size)
  clear KC KR q0 q1 p0 p1 HV HK
  generalize toN l = L at *
  obtain ⟨y, hy⟩ : ∃ y : Later v1.val.heap.size v1.val, y.val = v1.val := ⟨Later.self _, rfl⟩
  rw [← hy]
  clear hy
  generalize v1.val = V at *
  go_loopw [8, 19] (fun o i wr => ∃ (s : Nat) (ad : Option Addr) (cp : Nat) (v : Later V.heap.size V), s ≤ bit m ∧ i = .int .i64 s ∧ o = .slice ad (ints (thoseTo p s)).length cp ∧ wr = v.val ∧ Hid (Own V.heap.size v.val ad cp (ints (thoseTo p s)))) (fun _ i _ => bit m - (intOf i).toNat)
  case atStart => exact ⟨0, none, 0, y, by omega, rfl, rfl, rfl, Lib.hid (Own.nil _ _)⟩
  case round =>
    obtain ⟨s, ad, cp, v, hs, rfl, rfl, rfl, HO⟩ := hrel
    have HE := Lib.hid (thoseTo_step p s)
    have HL : Hid ((ints (thoseTo p s)).length ≤ 256) := Lib.hid (by rw [ints_len]; have := thoseTo_len p s; omega)
    rcases nlt s (bit m) with ⟨hlt, d0⟩ | ⟨hlt, d0⟩
    · have d0' : decide ((s : Int) < (bit m : Int)) = true := decide_eq_true (by omega)
      have HK1 := Lib.hid (HK2.out v g c (by have := v.size; omega) (HT.out.keep v.below) (Later.self v.val) s hlt)
      have HK1' : Hid (Calls Try.prog k (#[.slice (some ⟨g, 0, none⟩) (bit m) c, .int .i64 (s : Int)] ++ caps) v.val (Ret v.val.heap.size v.val (.bool (p s)))) := HK1
      generalize thoseTo p s = Lt at *
      clear HK1
      rcases btf (p s) with g1 | g1
      · rw [g1] at HK1'
        have G1 := Lib.hid g1; clear g1
        go_wp2_with (first | (refine (HK1'.out).mono ?_; rintro e _ ⟨rfl, v2, rfl⟩) | (at_builtin; refine wpList_push (B := V.heap.size) (W := V) (w := v2.val) (v.up v2).below (v.up v2).size rfl _ _ rfl (ints Lt) ad cp (s : Int) rfl (HO.out.keep v2.below) rfl (by have := HL.out; omega) ?_; intro u2 ad2 cp2 hown))
        go_roundw
        case rel =>
          refine ⟨s+1, ad2, cp2, u2, by omega, by go_num, ?_, rfl, ?_⟩
          · rw [HE.out, if_pos G1.out, ints_snoc]; simp
          · rw [HE.out, if_pos G1.out, ints_snoc]; exact Lib.hid hown
        case measure => simp [intOf]; omega
      · rw [g1] at HK1'
        have G1 := Lib.hid g1; clear g1
        go_wp2_with (first | (refine (HK1'.out).mono ?_; rintro e _ ⟨rfl, v2, rfl⟩))
        go_roundw
        case rel =>
          have hne : ¬ p s = true := by rw [G1.out]; decide
          refine ⟨s+1, ad, cp, v.up v2, by omega, by go_num, ?_, rfl, ?_⟩
          · rw [HE.out, if_neg hne]
          · rw [HE.out, if_neg hne]; exact Lib.hid (HO.out.keep v2.below)
        case measure => simp [intOf]; omega
    · have hse : Hid (s = bit m) := Lib.hid (by omega)
      have d0' : decide ((s : Int) < (bit m : Int)) = false := decide_eq_false (by omega)
      go_wp2
      go_ret2
      rw [hse.out] at HO ⊢
      exact RetP.of (HVB.out v) ⟨_, _, rfl, HO.out.mono HBV.out⟩
theorem c_axFamily {B : Nat} {W : World} (u : Later B W) (m : Nat) (hm : m ≤ 8) (l : List Int) (a : Option Addr) (cap : Nat) (h : IntsAt B W a l) (hlen : l.length ≤ 4611686018427387904) (he : MatIs (m : Int) l 0) (k : FuncId) (caps : Array Value) (p : Nat → Bool) (hpl : Plain k) (hk : TellsR B W m (toN l) k caps p) :
    Calls Try.prog 51 #[.agg #[.int .i64 m, .slice a l.length cap], .func (.func k) #[] caps] u.val (RetP B W (ListE (ints (those m p)) 0)) := listE_of (c_axFamilyO u m hm l a cap h hlen he k caps p hpl hk)

end Go.Proofs.Ytmcffbmhkbijlaa

namespace Go.Proofs.Ytmcffbmhkbijlaa
open Go.RowKit
set_option linter.unusedVariables false

set_option maxRecDepth 100000 in
set_option maxHeartbeats 4000000 in
theorem c_indTell {B : Nat} {W : World} (u : Later B W) (m : Nat) (hm : m ≤ 8) (L : List Nat) (g c s : Nat) (hs : s < bit m) (hg : g < B) (hT : ITab W g (bit m) (fun j => (rk L j : Int))) :
    Calls Try.prog 52 #[.slice (some ⟨g, 0, none⟩) (bit m) c, .int .i64 s] u.val (Ret B W (.bool (indP L s))) := by
  have hb := bit_le m hm
  have c0 : ∀ w : Later B W, w.val.cell? ⟨g, s, none⟩ = some (.int .i64 (rk L s : Int)) := fun w => (hT.keep_at w.below hg).cell hs
  have KS := Lib.hid (fun w : Later B W => c_size_axioms w s (by omega))
  have HP : Hid (((rk L s : Int) == (sz s : Int)) = indP L s) := Lib.hid (by unfold indP; rw [Bool.eq_iff_iff]; simp; omega)
  clear hT
  generalize indP L s = r at *
  generalize rk L s = p at *
  generalize sz s = q at *
  go_enter Try.func52, Try.ntmps52
  go_wp2
  refine wp_region_later u (by kernel_rfl) (by kernel_rfl) (fun _ => ?_)
  repeat (first | go_big_quiet_step (((go_at_call 46; exact KS.out _))) | (refine wpQuiet_step (fun K hK => ?_); go_simp; refine ⟨_, fun _ => rfl, ?_⟩; refine hK _ ?_; clear hK K))
  refine wpQuiet_nil ?_
  intro u
  go_wp2
  go_ret
  exact Ret.mk u (vbool HP.out)

set_option maxRecDepth 100000 in
set_option maxHeartbeats 8000000 in
theorem c_circTellP {B : Nat} {W : World} (u : Later B W) (m : Nat) (hm : m ≤ 8) (L : List Nat) (g c s : Nat) (hs : s < bit m) (hg : g < B) (hT : ITab W g (bit m) (fun j => (rk L j : Int))) :
    Calls Try.prog 54 #[.slice (some ⟨g, 0, none⟩) (bit m) c, .int .i64 s] u.val (Ret B W (.bool (circP L s))) := by
  have hb := bit_le m hm
  have cc : Hid (∀ t, t < bit m → ∀ w : Later B W, w.val.cell? ⟨g, t, none⟩ = some (.int .i64 (rk L t : Int))) := Lib.hid (fun t ht w => (hT.keep_at w.below hg).cell ht)
  have KZ := Lib.hid (fun (t : Nat) (ht : t < 256) (w : Later B W) => c_size_axioms w t ht)
  have HC : Hid (circP L s = true ↔ (rk L s + 1 = sz s ∧ ∀ i, i < 8 → s.testBit i = true → rk L (nand s (bit i)) = sz (nand s (bit i)))) := Lib.hid circP_iff
  have HR8 : Hid (∀ t, rk L t ≤ 8) := Lib.hid (rk_le8 L)
  have c0 := cc.out s hs
  have KS := Lib.hid (KZ.out s (by omega))
  have z8 := sz_le s
  have r8 := HR8.out s
  clear hT
  generalize circP L s = r at *
  by_cases h1 : rk L s + 1 = sz s
  case neg =>
    have hr : r = false := by
      cases c : r
      · rfl
      · exact absurd (HC.out.1 c).1 h1
    subst hr
    have d1 : ((rk L s : Int) != (sz s : Int) - 1) = true := by rw [bne_iff_ne]; omega
    clear HC h1 cc KZ HR8
    generalize rk L s = p at *
    generalize sz s = q at *
    go_enter Try.func54, Try.ntmps54
    go_wp2
    refine wp_region_later u (by kernel_rfl) (by kernel_rfl) (fun _ => ?_)
    repeat (first | go_big_quiet_step (((go_at_call 46; exact KS.out _))) | (refine wpQuiet_step (fun K hK => ?_); go_simp; refine ⟨_, fun _ => rfl, ?_⟩; refine hK _ ?_; clear hK K))
    refine wpQuiet_nil ?_
    intro u
    go_wp2
    go_ret
    exact Ret.mk u rfl
  have HC2 : Hid (r = true ↔ ∀ i, i < 8 → s.testBit i = true → rk L (nand s (bit i)) = sz (nand s (bit i))) := Lib.hid (by
    rw [HC.out]
    exact ⟨fun h => h.2, fun h => ⟨h1, h⟩⟩)
  have d1 : ((rk L s : Int) != (sz s : Int) - 1) = false := by rw [bne_eq_false_iff_eq]; omega
  clear HC h1
  have hs8 : s < 256 := by omega
  go_enter Try.func54, Try.ntmps54
  go_wp2
  refine wp_region_later u (by kernel_rfl) (by kernel_rfl) (fun _ => ?_)
  repeat (first | go_big_quiet_step (((go_at_call 46; exact KS.out _))) | (refine wpQuiet_step (fun K hK => ?_); go_simp; refine ⟨_, fun _ => rfl, ?_⟩; refine hK _ ?_; clear hK K))
  refine wpQuiet_nil ?_
  intro u
  go_wp2
  clear KS d1 c0 z8 r8
  go_loopw [5] (fun r' wr => ∃ (t : Nat) (v : Later B W), t < 256 ∧ r' = .int .i64 t ∧ wr = v.val ∧ Hid (sub t s) ∧ Hid (∀ i, i < 8 → s.testBit i = true → t.testBit i = false → rk L (nand s (bit i)) = sz (nand s (bit i)))) (fun r' _ => (intOf r').toNat)
  case atStart => exact ⟨s, u, hs8, rfl, rfl, Lib.hid (fun _ h => h), Lib.hid (fun i hi h1 h2 => by rw [h1] at h2; cases h2)⟩
  case round =>
    clear u
    obtain ⟨t, v, ht, rfl, rfl, HS, HN⟩ := hrel
    by_cases h0 : t = 0
    · subst h0
      have d0 : ((((0 : Nat) : Int)) != 0) = false := rfl
      have hr : r = true := HC2.out.2 (fun i hi h => HN.out i hi h (by simp))
      subst hr
      go_wp2
      go_ret
      exact Ret.mk v rfl
    · obtain ⟨d, hd8, hlow, htd, hdb, _, hdl⟩ := low_facts t ht h0
      have d0 : ((t : Int) != 0) = true := by rw [bne_iff_ne]; omega
      have l1 := i64_low t ht
      rw [hlow] at l1
      have l2 := i64_drop1 t ht (by omega)
      have HD := Lib.hid (drop1_lt t ht)
      have HDl := Lib.hid hdl
      have hbd := bit_lt d hd8
      have hbds := HS.out d htd
      have o1 := i64_andNot s (bit d) (by omega) (by omega)
      have hnb : nand s (bit d) < bit m := nand_lt _ _ m hs
      have c0 := cc.out _ hnb
      have KS := Lib.hid (KZ.out (nand s (bit d)) (by omega))
      have r8 := HR8.out (nand s (bit d))
      have z8 := sz_le (nand s (bit d))
      have HSn : Hid (sub (drop1 t) s) := Lib.hid (fun x hx => by
        have h8 := lt_of_testBit HD.out hx
        have := hdb x h8
        rw [this] at hx
        simp at hx
        exact HS.out x hx.1)
      have HX : Hid (rk L (nand s (bit d)) ≠ sz (nand s (bit d)) → r = false) := Lib.hid (fun h => by
        cases c : r
        · rfl
        · exact absurd (HC2.out.1 c d hd8 hbds) h)
      have HY : Hid (rk L (nand s (bit d)) = sz (nand s (bit d)) → ∀ i, i < 8 → s.testBit i = true → (drop1 t).testBit i = false → rk L (nand s (bit i)) = sz (nand s (bit i))) := Lib.hid (fun h i hi h1 h2 => by
        by_cases e : i = d
        · subst e; exact h
        · refine HN.out i hi h1 ?_
          rw [hdb i hi] at h2
          simpa [e] using h2)
      clear h0 hlow htd hdb hdl hbds HS HN
      by_cases hq : rk L (nand s (bit d)) = sz (nand s (bit d))
      · have d2 : ((rk L (nand s (bit d)) : Int) != (sz (nand s (bit d)) : Int)) = false := by rw [bne_eq_false_iff_eq]; omega
        have HN2 := Lib.hid (HY.out hq)
        clear hq HX HY
        generalize rk L (nand s (bit d)) = p at *
        generalize sz (nand s (bit d)) = q at *
        generalize nand s (bit d) = y at *
        go_wp2
        refine wp_region_later v (by kernel_rfl) (by kernel_rfl) (fun _ => ?_)
        repeat (first | go_big_quiet_step (((go_at_call 46; exact KS.out _))) | (refine wpQuiet_step (fun K hK => ?_); go_simp; refine ⟨_, fun _ => rfl, ?_⟩; refine hK _ ?_; clear hK K))
        refine wpQuiet_nil ?_
        intro v
        go_wp2
        go_roundw
        case rel => exact ⟨drop1 t, v, HD.out, rfl, rfl, HSn, HN2⟩
        case measure => have := HDl.out; simp [intOf]; omega
      · have d2 : ((rk L (nand s (bit d)) : Int) != (sz (nand s (bit d)) : Int)) = true := by rw [bne_iff_ne]; omega
        have hr := HX.out hq
        subst hr
        clear hq HX HY
        generalize rk L (nand s (bit d)) = p at *
        generalize sz (nand s (bit d)) = q at *
        generalize nand s (bit d) = y at *
        go_wp2
        refine wp_region_later v (by kernel_rfl) (by kernel_rfl) (fun _ => ?_)
        repeat (first | go_big_quiet_step (((go_at_call 46; exact KS.out _))) | (refine wpQuiet_step (fun K hK => ?_); go_simp; refine ⟨_, fun _ => rfl, ?_⟩; refine hK _ ?_; clear hK K))
        refine wpQuiet_nil ?_
        intro v
        go_wp2
        go_ret
        exact Ret.mk v rfl

set_option maxRecDepth 100000 in
set_option maxHeartbeats 8000000 in
theorem c_axFlat {B : Nat} {W : World} (u : Later B W) (m : Nat) (hm : m ≤ 8) (L : List Nat) (g c s : Nat) (hs : s < bit m) (hg : g < B) (hT : ITab W g (bit m) (fun j => (rk L j : Int))) :
    Calls Try.prog 56 #[.slice (some ⟨g, 0, none⟩) (bit m) c, .int .i64 m, .int .i64 s] u.val (Ret B W (.bool (flatP m L s))) := by
  have hb := bit_le m hm
  have cc : Hid (∀ t, t < bit m → ∀ w : Later B W, w.val.cell? ⟨g, t, none⟩ = some (.int .i64 (rk L t : Int))) := Lib.hid (fun t ht w => (hT.keep_at w.below hg).cell ht)
  have HC : Hid (flatP m L s = true ↔ ∀ i, i < m → s.testBit i = false → rk L (s ||| bit i) ≠ rk L s) := Lib.hid flatP_iff
  have c0 := cc.out s hs
  have hs8 : s < 256 := by omega
  clear hT
  generalize flatP m L s = r at *
  go_enter Try.func56, Try.ntmps56
  go_wp2
  go_loopw [9] (fun i wr => ∃ (k : Nat) (v : Later B W), k ≤ m ∧ i = .int .i64 k ∧ wr = v.val ∧ Hid (∀ i, i < k → s.testBit i = false → rk L (s ||| bit i) ≠ rk L s)) (fun i _ => m - (intOf i).toNat)
  case atStart => exact ⟨0, u, by omega, rfl, rfl, Lib.hid (fun i hi => by omega)⟩
  case round =>
    clear u
    obtain ⟨k, v, hk, rfl, rfl, HN⟩ := hrel
    by_cases hlt : k < m
    · have hbk := bit_lt k (by omega)
      have bc := bit_cast k
      have ib := i64_bit s k hs8 (by omega)
      have w1 := IntWalk.i64_in (bit k : Int) (by omega)
      have o1 := i64_or s (bit k) (by omega) (by omega)
      have hor : s ||| bit k < bit m := or_lt_bit hs (bit_lt_bit hlt)
      have c1 := cc.out _ hor
      rcases btf (s.testBit k) with g1 | g1
      · rw [g1] at ib
        have HN2 : Hid (∀ i, i < k + 1 → s.testBit i = false → rk L (s ||| bit i) ≠ rk L s) := Lib.hid (fun i hi h => by
          by_cases e : i = k
          · subst e; rw [g1] at h; cases h
          · exact HN.out i (by omega) h)
        clear g1 HN
        generalize s ||| bit k = y at *
        go_wp2
        refine wp_region_later v (by kernel_rfl) (by kernel_rfl) (fun _ => ?_)
        repeat (first | go_big_quiet_step ((fail)) | (refine wpQuiet_step (fun K hK => ?_); go_simp; refine ⟨_, fun _ => rfl, ?_⟩; refine hK _ ?_; clear hK K))
        refine wpQuiet_nil ?_
        intro v
        go_wp2
        go_roundw
        case rel => exact ⟨k+1, v, by omega, by go_num, rfl, HN2⟩
        case measure => simp [intOf]; omega
      · rw [g1] at ib
        by_cases hq : rk L (s ||| bit k) = rk L s
        · have hr : r = false := by
            cases c : r
            · rfl
            · exact absurd hq (HC.out.1 c k hlt g1)
          subst hr
          have d2 : ((rk L (s ||| bit k) : Int) == (rk L s : Int)) = true := by rw [beq_iff_eq]; omega
          clear g1 HN hq HC
          generalize rk L (s ||| bit k) = p at *
          generalize rk L s = q at *
          generalize s ||| bit k = y at *
          go_wp2
          refine wp_region_later v (by kernel_rfl) (by kernel_rfl) (fun _ => ?_)
          repeat (first | go_big_quiet_step ((fail)) | (refine wpQuiet_step (fun K hK => ?_); go_simp; refine ⟨_, fun _ => rfl, ?_⟩; refine hK _ ?_; clear hK K))
          refine wpQuiet_nil ?_
          intro v
          go_wp2
          go_ret
          exact Ret.mk v rfl
        · have d2 : ((rk L (s ||| bit k) : Int) == (rk L s : Int)) = false := by rw [beq_eq_false_iff_ne]; omega
          have HN2 : Hid (∀ i, i < k + 1 → s.testBit i = false → rk L (s ||| bit i) ≠ rk L s) := Lib.hid (fun i hi h => by
            by_cases e : i = k
            · subst e; exact hq
            · exact HN.out i (by omega) h)
          clear g1 HN hq
          generalize rk L (s ||| bit k) = p at *
          generalize hqq : rk L s = q at *
          generalize s ||| bit k = y at *
          go_wp2
          refine wp_region_later v (by kernel_rfl) (by kernel_rfl) (fun _ => ?_)
          repeat (first | go_big_quiet_step ((fail)) | (refine wpQuiet_step (fun K hK => ?_); go_simp; refine ⟨_, fun _ => rfl, ?_⟩; refine hK _ ?_; clear hK K))
          refine wpQuiet_nil ?_
          intro v
          go_wp2
          go_roundw
          case rel => exact ⟨k+1, v, by omega, by go_num, rfl, HN2⟩
          case measure => simp [intOf]; omega
    · have hr : r = true := HC.out.2 (fun i hi h => HN.out i (by omega) h)
      subst hr
      go_wp2
      go_ret
      exact Ret.mk v rfl

set_option maxRecDepth 100000 in
set_option maxHeartbeats 4000000 in
theorem c_flatTellP {B : Nat} {W : World} (u : Later B W) (m : Nat) (hm : m ≤ 8) (L : List Nat) (g c s q : Nat) (hs : s < bit m) (hg : g < B) (hT : ITab W g (bit m) (fun j => (rk L j : Int))) (hq : q < B) (hbox : W.cell? ⟨q, 0, none⟩ = some (.int .i64 m)) :
    Calls Try.prog 55 #[.slice (some ⟨g, 0, none⟩) (bit m) c, .int .i64 s, .pointer (some ⟨q, 0, none⟩)] u.val (Ret B W (.bool (flatP m L s))) := by
  have c0 : ∀ w : Later B W, w.val.cell? ⟨q, 0, none⟩ = some (.int .i64 m) := fun w => by rw [w.cell hq, hbox]
  have K := Lib.hid (fun w : Later B W => c_axFlat w m hm L g c s hs hg hT)
  clear hT hbox
  generalize flatP m L s = r at *
  go_enter Try.func55, Try.ntmps55
  go_wp2_with (first | (go_at_call 56; (with_reducible refine (K.out _).mono ?_); rintro e _ ⟨rfl, v1, rfl⟩))
  go_ret
  exact Ret.mk v1 rfl

set_option maxRecDepth 100000 in
set_option maxHeartbeats 4000000 in
theorem c_hypTellP {B : Nat} {W : World} (u : Later B W) (m : Nat) (hm : m ≤ 8) (L : List Nat) (g c s q : Nat) (hs : s < bit m) (hg : g < B) (hT : ITab W g (bit m) (fun j => (rk L j : Int))) (hq : q < B) (hbox : W.cell? ⟨q, 0, none⟩ = some (.int .i64 m)) :
    Calls Try.prog 59 #[.slice (some ⟨g, 0, none⟩) (bit m) c, .int .i64 s, .pointer (some ⟨q, 0, none⟩)] u.val (Ret B W (.bool (hypP m L s))) := by
  have hb := bit_le m hm
  have c0 : ∀ w : Later B W, w.val.cell? ⟨q, 0, none⟩ = some (.int .i64 m) := fun w => by rw [w.cell hq, hbox]
  have c1 : ∀ w : Later B W, w.val.cell? ⟨g, s, none⟩ = some (.int .i64 (rk L s : Int)) := fun w => (hT.keep_at w.below hg).cell hs
  have c2 : ∀ w : Later B W, w.val.cell? ⟨g, bit m - 1, none⟩ = some (.int .i64 (rk L (bit m - 1) : Int)) := fun w => (hT.keep_at w.below hg).cell (by omega)
  have K := Lib.hid (fun w : Later B W => c_axFlat w m hm L g c s hs hg hT)
  have HP : Hid (hypP m L s = (decide (rk L s + 1 = rk L (bit m - 1)) && flatP m L s)) := Lib.hid rfl
  have r8 := rk_le8 L s
  have r8' := rk_le8 L (bit m - 1)
  clear hT hbox
  generalize hypP m L s = r at *
  generalize flatP m L s = f at *
  by_cases h1 : rk L s + 1 = rk L (bit m - 1)
  · have d1 : ((rk L s : Int) == (rk L (bit m - 1) : Int) - 1) = true := by rw [beq_iff_eq]; omega
    have HP2 : Hid (f = r) := Lib.hid (by rw [HP.out, decide_eq_true h1]; rfl)
    clear HP h1
    generalize rk L s = p at *
    generalize rk L (bit m - 1) = p2 at *
    go_enter Try.func59, Try.ntmps59
    go_wp2
    refine wp_region_later u (by kernel_rfl) (by kernel_rfl) (fun _ => ?_)
    repeat (first | go_big_quiet_step (((go_at_call 56; exact K.out _))) | (refine wpQuiet_step (fun K hK => ?_); go_simp; refine ⟨_, fun _ => rfl, ?_⟩; refine hK _ ?_; clear hK K))
    refine wpQuiet_nil ?_
    intro u
    go_wp2
    go_ret
    exact Ret.mk u (vbool HP2.out)
  · have d1 : ((rk L s : Int) == (rk L (bit m - 1) : Int) - 1) = false := by rw [beq_eq_false_iff_ne]; omega
    have HP2 : Hid (false = r) := Lib.hid (by rw [HP.out, decide_eq_false h1]; rfl)
    clear HP h1
    generalize rk L s = p at *
    generalize rk L (bit m - 1) = p2 at *
    go_enter Try.func59, Try.ntmps59
    go_wp2
    refine wp_region_later u (by kernel_rfl) (by kernel_rfl) (fun _ => ?_)
    repeat (first | go_big_quiet_step (((go_at_call 56; exact K.out _))) | (refine wpQuiet_step (fun K hK => ?_); go_simp; refine ⟨_, fun _ => rfl, ?_⟩; refine hK _ ?_; clear hK K))
    refine wpQuiet_nil ?_
    intro u
    go_wp2
    go_ret
    exact Ret.mk u (vbool HP2.out)

end Go.Proofs.Ytmcffbmhkbijlaa

namespace Go.Proofs.Ytmcffbmhkbijlaa
open Go.RowKit
set_option linter.unusedVariables false

set_option maxRecDepth 100000 in
set_option maxHeartbeats 4000000 in
theorem c_axFamily_no {B : Nat} {W : World} (u : Later B W) (n : Int) (l : List Int) (a : Option Addr) (cap : Nat) (e : Int) (h : IntsAt B W a l) (hlen : l.length ≤ 4611686018427387904) (he : MatIs n l e) (h0 : e ≠ 0) (k : FuncId) (caps : Array Value) :
    Calls Try.prog 51 #[.agg #[.int .i64 n, .slice a l.length cap], .func (.func k) #[] caps] u.val (RetP B W (ListE [] e)) := by
  have T0 : Hid (Two (u.val.alloc (.cells #[.int .i64 n, .slice a l.length cap] 29)) u.val.heap.size 29 (.int .i64 n) (.slice a l.length cap)) := Lib.hid (Two.new _ _ _ _)
  have hrr : u.val.heap.size < (u.val.alloc (.cells #[.int .i64 n, .slice a l.length cap] 29)).heap.size := by simp
  have hI : IntsAt (u.val.alloc (.cells #[.int .i64 n, .slice a l.length cap] 29)).heap.size (u.val.alloc (.cells #[.int .i64 n, .slice a l.length cap] 29)) a l := h.to (u.alloc _)
  have HV : Hid (∀ v : Later (u.val.alloc (.cells #[.int .i64 n, .slice a l.length cap] 29)).heap.size (u.val.alloc (.cells #[.int .i64 n, .slice a l.length cap] 29)), ∃ w : Later B W, w.val = v.val) := Lib.hid (fun v => ⟨(u.alloc _).up v, rfl⟩)
  have q0 : ∀ w : Later (u.val.alloc (.cells #[.int .i64 n, .slice a l.length cap] 29)).heap.size (u.val.alloc (.cells #[.int .i64 n, .slice a l.length cap] 29)), w.val.cell? ⟨u.val.heap.size, 0, none⟩ = some (.int .i64 n) := fun w => (T0.out.keep w.below).c0
  have q1 : ∀ w : Later (u.val.alloc (.cells #[.int .i64 n, .slice a l.length cap] 29)).heap.size (u.val.alloc (.cells #[.int .i64 n, .slice a l.length cap] 29)), w.val.cell? ⟨u.val.heap.size, 1, none⟩ = some (.slice a l.length cap) := fun w => (T0.out.keep w.below).c1
  have p0 : (u.val.alloc (.cells #[.int .i64 n, .slice a l.length cap] 29)).cell? ⟨u.val.heap.size, 0, none⟩ = some (.int .i64 n) := T0.out.c0
  have p1 : (u.val.alloc (.cells #[.int .i64 n, .slice a l.length cap] 29)).cell? ⟨u.val.heap.size, 1, none⟩ = some (.slice a l.length cap) := T0.out.c1
  have KC : Hid (Calls Try.prog 32 #[.agg #[.int .i64 n, .slice a l.length cap]] (u.val.alloc (.cells #[.int .i64 n, .slice a l.length cap] 29)) (Ret (u.val.alloc (.cells #[.int .i64 n, .slice a l.length cap] 29)).heap.size (u.val.alloc (.cells #[.int .i64 n, .slice a l.length cap] 29)) (.int .i64 e))) := Lib.hid (c_axCheck (Later.self _) n l a cap e hI hlen he)
  have d0 : (e != 0) = true := by rw [bne_iff_ne]; exact h0
  clear h hI he h0
  go_enter Try.func51, Try.ntmps51
  go_wp2_with (first | (go_at_call 32; (with_reducible refine (KC.out).mono ?_); rintro e _ ⟨rfl, v1, rfl⟩))
  go_ret2
  exact RetP.of (HV.out v1) ListE.no

set_option maxRecDepth 100000 in
set_option maxHeartbeats 4000000 in
theorem c_axRanks_no {B : Nat} {W : World} (u : Later B W) (n : Int) (l : List Int) (a : Option Addr) (cap : Nat) (e : Int) (h : IntsAt B W a l) (hlen : l.length ≤ 4611686018427387904) (he : MatIs n l e) (h0 : e ≠ 0) :
    Calls Try.prog 47 #[.agg #[.int .i64 n, .slice a l.length cap]] u.val (RetP B W (ListE [] e)) := by
  have T0 : Hid (Two (u.val.alloc (.cells #[.int .i64 n, .slice a l.length cap] 29)) u.val.heap.size 29 (.int .i64 n) (.slice a l.length cap)) := Lib.hid (Two.new _ _ _ _)
  have hrr : u.val.heap.size < (u.val.alloc (.cells #[.int .i64 n, .slice a l.length cap] 29)).heap.size := by simp
  have hI : IntsAt (u.val.alloc (.cells #[.int .i64 n, .slice a l.length cap] 29)).heap.size (u.val.alloc (.cells #[.int .i64 n, .slice a l.length cap] 29)) a l := h.to (u.alloc _)
  have HV : Hid (∀ v : Later (u.val.alloc (.cells #[.int .i64 n, .slice a l.length cap] 29)).heap.size (u.val.alloc (.cells #[.int .i64 n, .slice a l.length cap] 29)), ∃ w : Later B W, w.val = v.val) := Lib.hid (fun v => ⟨(u.alloc _).up v, rfl⟩)
  have q0 : ∀ w : Later (u.val.alloc (.cells #[.int .i64 n, .slice a l.length cap] 29)).heap.size (u.val.alloc (.cells #[.int .i64 n, .slice a l.length cap] 29)), w.val.cell? ⟨u.val.heap.size, 0, none⟩ = some (.int .i64 n) := fun w => (T0.out.keep w.below).c0
  have q1 : ∀ w : Later (u.val.alloc (.cells #[.int .i64 n, .slice a l.length cap] 29)).heap.size (u.val.alloc (.cells #[.int .i64 n, .slice a l.length cap] 29)), w.val.cell? ⟨u.val.heap.size, 1, none⟩ = some (.slice a l.length cap) := fun w => (T0.out.keep w.below).c1
  have p0 : (u.val.alloc (.cells #[.int .i64 n, .slice a l.length cap] 29)).cell? ⟨u.val.heap.size, 0, none⟩ = some (.int .i64 n) := T0.out.c0
  have p1 : (u.val.alloc (.cells #[.int .i64 n, .slice a l.length cap] 29)).cell? ⟨u.val.heap.size, 1, none⟩ = some (.slice a l.length cap) := T0.out.c1
  have KC : Hid (Calls Try.prog 32 #[.agg #[.int .i64 n, .slice a l.length cap]] (u.val.alloc (.cells #[.int .i64 n, .slice a l.length cap] 29)) (Ret (u.val.alloc (.cells #[.int .i64 n, .slice a l.length cap] 29)).heap.size (u.val.alloc (.cells #[.int .i64 n, .slice a l.length cap] 29)) (.int .i64 e))) := Lib.hid (c_axCheck (Later.self _) n l a cap e hI hlen he)
  have d0 : (e != 0) = true := by rw [bne_iff_ne]; exact h0
  clear h hI he h0
  go_enter Try.func47, Try.ntmps47
  go_wp2_with (first | (go_at_call 32; (with_reducible refine (KC.out).mono ?_); rintro e _ ⟨rfl, v1, rfl⟩))
  go_ret2
  exact RetP.of (HV.out v1) ListE.no

theorem c_axRanksE {B : Nat} {W : World} (u : Later B W) (m : Nat) (hm : m ≤ 8) (l : List Int) (a : Option Addr) (cap : Nat) (h : IntsAt B W a l) (hlen : l.length ≤ 4611686018427387904) (he : MatIs (m : Int) l 0) :
    Calls Try.prog 47 #[.agg #[.int .i64 m, .slice a l.length cap]] u.val (RetP B W (ListE (rkL m (toN l)) 0)) := (c_axRanks u m hm l a cap h hlen he).mono fun e w h => by
  obtain ⟨v, h1, ⟨g, c, h2, hT⟩, u', h3⟩ := h
  have hr := hT.reads (cap := c)
  exact ⟨v, h1, ⟨_, h2, hr⟩, u', h3⟩

set_option maxRecDepth 100000 in
set_option maxHeartbeats 4000000 in
theorem c_axIndO {B : Nat} {W : World} (u : Later B W) (m : Nat) (hm : m ≤ 8) (l : List Int) (a : Option Addr) (cap : Nat) (h : IntsAt B W a l) (hlen : l.length ≤ 4611686018427387904) (he : MatIs (m : Int) l 0) :
    Calls Try.prog 22 #[.agg #[.int .i64 m, .slice a l.length cap]] u.val (RetP B W (ListO B (ints (those m (indP (toN l)))) 0)) := by
  have T0 : Hid (Two (u.val.alloc (.cells #[.int .i64 m, .slice a l.length cap] 29)) u.val.heap.size 29 (.int .i64 m) (.slice a l.length cap)) := Lib.hid (Two.new _ _ _ _)
  have hrr : u.val.heap.size < (u.val.alloc (.cells #[.int .i64 m, .slice a l.length cap] 29)).heap.size := by simp
  have hI : IntsAt (u.val.alloc (.cells #[.int .i64 m, .slice a l.length cap] 29)).heap.size (u.val.alloc (.cells #[.int .i64 m, .slice a l.length cap] 29)) a l := h.to (u.alloc _)
  have HV : Hid (∀ v : Later (u.val.alloc (.cells #[.int .i64 m, .slice a l.length cap] 29)).heap.size (u.val.alloc (.cells #[.int .i64 m, .slice a l.length cap] 29)), ∃ w : Later B W, w.val = v.val) := Lib.hid (fun v => ⟨(u.alloc _).up v, rfl⟩)
  have q0 : ∀ w : Later (u.val.alloc (.cells #[.int .i64 m, .slice a l.length cap] 29)).heap.size (u.val.alloc (.cells #[.int .i64 m, .slice a l.length cap] 29)), w.val.cell? ⟨u.val.heap.size, 0, none⟩ = some (.int .i64 m) := fun w => (T0.out.keep w.below).c0
  have q1 : ∀ w : Later (u.val.alloc (.cells #[.int .i64 m, .slice a l.length cap] 29)).heap.size (u.val.alloc (.cells #[.int .i64 m, .slice a l.length cap] 29)), w.val.cell? ⟨u.val.heap.size, 1, none⟩ = some (.slice a l.length cap) := fun w => (T0.out.keep w.below).c1
  have p0 : (u.val.alloc (.cells #[.int .i64 m, .slice a l.length cap] 29)).cell? ⟨u.val.heap.size, 0, none⟩ = some (.int .i64 m) := T0.out.c0
  have p1 : (u.val.alloc (.cells #[.int .i64 m, .slice a l.length cap] 29)).cell? ⟨u.val.heap.size, 1, none⟩ = some (.slice a l.length cap) := T0.out.c1
  have K : Hid (Calls Try.prog 51 #[.agg #[.int .i64 m, .slice a l.length cap], .func (.func 52) #[] #[]] (u.val.alloc (.cells #[.int .i64 m, .slice a l.length cap] 29)) (RetP (u.val.alloc (.cells #[.int .i64 m, .slice a l.length cap] 29)).heap.size (u.val.alloc (.cells #[.int .i64 m, .slice a l.length cap] 29)) (ListO (u.val.alloc (.cells #[.int .i64 m, .slice a l.length cap] 29)).heap.size (ints (those m (indP (toN l)))) 0))) := Lib.hid (c_axFamilyO (Later.self _) m hm l a cap hI hlen he 52 #[] (indP (toN l)) (fun args w => by kernel_rfl) (fun x g c hg hT v s hs => c_indTell v m hm (toN l) g c s hs hg hT))
  have HB : Hid (B ≤ (u.val.alloc (.cells #[.int .i64 m, .slice a l.length cap] 29)).heap.size) := Lib.hid (by have := u.size; simp; omega)
  clear h hI he
  go_enter Try.func22, Try.ntmps22
  go_wp2_with (first | (go_at_call 51; (with_reducible refine (K.out).mono ?_); rintro e _ ⟨_, rfl, ⟨_, _, rfl, hr⟩, v1, rfl⟩))
  go_ret2
  exact RetP.of (HV.out v1) ⟨_, _, rfl, hr.mono HB.out⟩
theorem c_axInd {B : Nat} {W : World} (u : Later B W) (m : Nat) (hm : m ≤ 8) (l : List Int) (a : Option Addr) (cap : Nat) (h : IntsAt B W a l) (hlen : l.length ≤ 4611686018427387904) (he : MatIs (m : Int) l 0) :
    Calls Try.prog 22 #[.agg #[.int .i64 m, .slice a l.length cap]] u.val (RetP B W (ListE (ints (those m (indP (toN l)))) 0)) := listE_of (c_axIndO u m hm l a cap h hlen he)
set_option maxRecDepth 100000 in
set_option maxHeartbeats 4000000 in
theorem c_axInd_no {B : Nat} {W : World} (u : Later B W) (n : Int) (l : List Int) (a : Option Addr) (cap : Nat) (e : Int) (h : IntsAt B W a l) (hlen : l.length ≤ 4611686018427387904) (he : MatIs n l e) (h0 : e ≠ 0) :
    Calls Try.prog 22 #[.agg #[.int .i64 n, .slice a l.length cap]] u.val (RetP B W (ListE [] e)) := by
  have T0 : Hid (Two (u.val.alloc (.cells #[.int .i64 n, .slice a l.length cap] 29)) u.val.heap.size 29 (.int .i64 n) (.slice a l.length cap)) := Lib.hid (Two.new _ _ _ _)
  have hrr : u.val.heap.size < (u.val.alloc (.cells #[.int .i64 n, .slice a l.length cap] 29)).heap.size := by simp
  have hI : IntsAt (u.val.alloc (.cells #[.int .i64 n, .slice a l.length cap] 29)).heap.size (u.val.alloc (.cells #[.int .i64 n, .slice a l.length cap] 29)) a l := h.to (u.alloc _)
  have HV : Hid (∀ v : Later (u.val.alloc (.cells #[.int .i64 n, .slice a l.length cap] 29)).heap.size (u.val.alloc (.cells #[.int .i64 n, .slice a l.length cap] 29)), ∃ w : Later B W, w.val = v.val) := Lib.hid (fun v => ⟨(u.alloc _).up v, rfl⟩)
  have q0 : ∀ w : Later (u.val.alloc (.cells #[.int .i64 n, .slice a l.length cap] 29)).heap.size (u.val.alloc (.cells #[.int .i64 n, .slice a l.length cap] 29)), w.val.cell? ⟨u.val.heap.size, 0, none⟩ = some (.int .i64 n) := fun w => (T0.out.keep w.below).c0
  have q1 : ∀ w : Later (u.val.alloc (.cells #[.int .i64 n, .slice a l.length cap] 29)).heap.size (u.val.alloc (.cells #[.int .i64 n, .slice a l.length cap] 29)), w.val.cell? ⟨u.val.heap.size, 1, none⟩ = some (.slice a l.length cap) := fun w => (T0.out.keep w.below).c1
  have p0 : (u.val.alloc (.cells #[.int .i64 n, .slice a l.length cap] 29)).cell? ⟨u.val.heap.size, 0, none⟩ = some (.int .i64 n) := T0.out.c0
  have p1 : (u.val.alloc (.cells #[.int .i64 n, .slice a l.length cap] 29)).cell? ⟨u.val.heap.size, 1, none⟩ = some (.slice a l.length cap) := T0.out.c1
  have K : Hid (Calls Try.prog 51 #[.agg #[.int .i64 n, .slice a l.length cap], .func (.func 52) #[] #[]] (u.val.alloc (.cells #[.int .i64 n, .slice a l.length cap] 29)) (RetP (u.val.alloc (.cells #[.int .i64 n, .slice a l.length cap] 29)).heap.size (u.val.alloc (.cells #[.int .i64 n, .slice a l.length cap] 29)) (ListE [] e))) := Lib.hid (c_axFamily_no (Later.self _) n l a cap e hI hlen he h0 _ _)
  clear h hI he
  go_enter Try.func22, Try.ntmps22
  go_wp2_with (first | (go_at_call 51; (with_reducible refine (K.out).mono ?_); rintro e _ ⟨_, rfl, ⟨_, rfl, hr⟩, v1, rfl⟩))
  go_ret2
  exact RetP.of (HV.out v1) ⟨_, rfl, hr⟩

set_option maxRecDepth 100000 in
set_option maxHeartbeats 4000000 in
theorem c_axCircO {B : Nat} {W : World} (u : Later B W) (m : Nat) (hm : m ≤ 8) (l : List Int) (a : Option Addr) (cap : Nat) (h : IntsAt B W a l) (hlen : l.length ≤ 4611686018427387904) (he : MatIs (m : Int) l 0) :
    Calls Try.prog 26 #[.agg #[.int .i64 m, .slice a l.length cap]] u.val (RetP B W (ListO B (ints (those m (circP (toN l)))) 0)) := by
  have T0 : Hid (Two (u.val.alloc (.cells #[.int .i64 m, .slice a l.length cap] 29)) u.val.heap.size 29 (.int .i64 m) (.slice a l.length cap)) := Lib.hid (Two.new _ _ _ _)
  have hrr : u.val.heap.size < (u.val.alloc (.cells #[.int .i64 m, .slice a l.length cap] 29)).heap.size := by simp
  have hI : IntsAt (u.val.alloc (.cells #[.int .i64 m, .slice a l.length cap] 29)).heap.size (u.val.alloc (.cells #[.int .i64 m, .slice a l.length cap] 29)) a l := h.to (u.alloc _)
  have HV : Hid (∀ v : Later (u.val.alloc (.cells #[.int .i64 m, .slice a l.length cap] 29)).heap.size (u.val.alloc (.cells #[.int .i64 m, .slice a l.length cap] 29)), ∃ w : Later B W, w.val = v.val) := Lib.hid (fun v => ⟨(u.alloc _).up v, rfl⟩)
  have q0 : ∀ w : Later (u.val.alloc (.cells #[.int .i64 m, .slice a l.length cap] 29)).heap.size (u.val.alloc (.cells #[.int .i64 m, .slice a l.length cap] 29)), w.val.cell? ⟨u.val.heap.size, 0, none⟩ = some (.int .i64 m) := fun w => (T0.out.keep w.below).c0
  have q1 : ∀ w : Later (u.val.alloc (.cells #[.int .i64 m, .slice a l.length cap] 29)).heap.size (u.val.alloc (.cells #[.int .i64 m, .slice a l.length cap] 29)), w.val.cell? ⟨u.val.heap.size, 1, none⟩ = some (.slice a l.length cap) := fun w => (T0.out.keep w.below).c1
  have p0 : (u.val.alloc (.cells #[.int .i64 m, .slice a l.length cap] 29)).cell? ⟨u.val.heap.size, 0, none⟩ = some (.int .i64 m) := T0.out.c0
  have p1 : (u.val.alloc (.cells #[.int .i64 m, .slice a l.length cap] 29)).cell? ⟨u.val.heap.size, 1, none⟩ = some (.slice a l.length cap) := T0.out.c1
  have K : Hid (Calls Try.prog 51 #[.agg #[.int .i64 m, .slice a l.length cap], .func (.func 54) #[] #[]] (u.val.alloc (.cells #[.int .i64 m, .slice a l.length cap] 29)) (RetP (u.val.alloc (.cells #[.int .i64 m, .slice a l.length cap] 29)).heap.size (u.val.alloc (.cells #[.int .i64 m, .slice a l.length cap] 29)) (ListO (u.val.alloc (.cells #[.int .i64 m, .slice a l.length cap] 29)).heap.size (ints (those m (circP (toN l)))) 0))) := Lib.hid (c_axFamilyO (Later.self _) m hm l a cap hI hlen he 54 #[] (circP (toN l)) (fun args w => by kernel_rfl) (fun x g c hg hT v s hs => c_circTellP v m hm (toN l) g c s hs hg hT))
  have HB : Hid (B ≤ (u.val.alloc (.cells #[.int .i64 m, .slice a l.length cap] 29)).heap.size) := Lib.hid (by have := u.size; simp; omega)
  clear h hI he
  go_enter Try.func26, Try.ntmps26
  go_wp2_with (first | (go_at_call 51; (with_reducible refine (K.out).mono ?_); rintro e _ ⟨_, rfl, ⟨_, _, rfl, hr⟩, v1, rfl⟩))
  go_ret2
  exact RetP.of (HV.out v1) ⟨_, _, rfl, hr.mono HB.out⟩
theorem c_axCirc {B : Nat} {W : World} (u : Later B W) (m : Nat) (hm : m ≤ 8) (l : List Int) (a : Option Addr) (cap : Nat) (h : IntsAt B W a l) (hlen : l.length ≤ 4611686018427387904) (he : MatIs (m : Int) l 0) :
    Calls Try.prog 26 #[.agg #[.int .i64 m, .slice a l.length cap]] u.val (RetP B W (ListE (ints (those m (circP (toN l)))) 0)) := listE_of (c_axCircO u m hm l a cap h hlen he)
set_option maxRecDepth 100000 in
set_option maxHeartbeats 4000000 in
theorem c_axCirc_no {B : Nat} {W : World} (u : Later B W) (n : Int) (l : List Int) (a : Option Addr) (cap : Nat) (e : Int) (h : IntsAt B W a l) (hlen : l.length ≤ 4611686018427387904) (he : MatIs n l e) (h0 : e ≠ 0) :
    Calls Try.prog 26 #[.agg #[.int .i64 n, .slice a l.length cap]] u.val (RetP B W (ListE [] e)) := by
  have T0 : Hid (Two (u.val.alloc (.cells #[.int .i64 n, .slice a l.length cap] 29)) u.val.heap.size 29 (.int .i64 n) (.slice a l.length cap)) := Lib.hid (Two.new _ _ _ _)
  have hrr : u.val.heap.size < (u.val.alloc (.cells #[.int .i64 n, .slice a l.length cap] 29)).heap.size := by simp
  have hI : IntsAt (u.val.alloc (.cells #[.int .i64 n, .slice a l.length cap] 29)).heap.size (u.val.alloc (.cells #[.int .i64 n, .slice a l.length cap] 29)) a l := h.to (u.alloc _)
  have HV : Hid (∀ v : Later (u.val.alloc (.cells #[.int .i64 n, .slice a l.length cap] 29)).heap.size (u.val.alloc (.cells #[.int .i64 n, .slice a l.length cap] 29)), ∃ w : Later B W, w.val = v.val) := Lib.hid (fun v => ⟨(u.alloc _).up v, rfl⟩)
  have q0 : ∀ w : Later (u.val.alloc (.cells #[.int .i64 n, .slice a l.length cap] 29)).heap.size (u.val.alloc (.cells #[.int .i64 n, .slice a l.length cap] 29)), w.val.cell? ⟨u.val.heap.size, 0, none⟩ = some (.int .i64 n) := fun w => (T0.out.keep w.below).c0
  have q1 : ∀ w : Later (u.val.alloc (.cells #[.int .i64 n, .slice a l.length cap] 29)).heap.size (u.val.alloc (.cells #[.int .i64 n, .slice a l.length cap] 29)), w.val.cell? ⟨u.val.heap.size, 1, none⟩ = some (.slice a l.length cap) := fun w => (T0.out.keep w.below).c1
  have p0 : (u.val.alloc (.cells #[.int .i64 n, .slice a l.length cap] 29)).cell? ⟨u.val.heap.size, 0, none⟩ = some (.int .i64 n) := T0.out.c0
  have p1 : (u.val.alloc (.cells #[.int .i64 n, .slice a l.length cap] 29)).cell? ⟨u.val.heap.size, 1, none⟩ = some (.slice a l.length cap) := T0.out.c1
  have K : Hid (Calls Try.prog 51 #[.agg #[.int .i64 n, .slice a l.length cap], .func (.func 54) #[] #[]] (u.val.alloc (.cells #[.int .i64 n, .slice a l.length cap] 29)) (RetP (u.val.alloc (.cells #[.int .i64 n, .slice a l.length cap] 29)).heap.size (u.val.alloc (.cells #[.int .i64 n, .slice a l.length cap] 29)) (ListE [] e))) := Lib.hid (c_axFamily_no (Later.self _) n l a cap e hI hlen he h0 _ _)
  clear h hI he
  go_enter Try.func26, Try.ntmps26
  go_wp2_with (first | (go_at_call 51; (with_reducible refine (K.out).mono ?_); rintro e _ ⟨_, rfl, ⟨_, rfl, hr⟩, v1, rfl⟩))
  go_ret2
  exact RetP.of (HV.out v1) ⟨_, rfl, hr⟩

set_option maxRecDepth 100000 in
set_option maxHeartbeats 4000000 in
theorem c_axFlatsO {B : Nat} {W : World} (u : Later B W) (m : Nat) (hm : m ≤ 8) (l : List Int) (a : Option Addr) (cap : Nat) (h : IntsAt B W a l) (hlen : l.length ≤ 4611686018427387904) (he : MatIs (m : Int) l 0) :
    Calls Try.prog 29 #[.agg #[.int .i64 m, .slice a l.length cap]] u.val (RetP B W (ListO B (ints (those m (flatP m (toN l)))) 0)) := by
  have T0 : Hid (Two (u.val.alloc (.cells #[.int .i64 m, .slice a l.length cap] 29)) u.val.heap.size 29 (.int .i64 m) (.slice a l.length cap)) := Lib.hid (Two.new _ _ _ _)
  have hrr : u.val.heap.size < (u.val.alloc (.cells #[.int .i64 m, .slice a l.length cap] 29)).heap.size := by simp
  have hI : IntsAt (u.val.alloc (.cells #[.int .i64 m, .slice a l.length cap] 29)).heap.size (u.val.alloc (.cells #[.int .i64 m, .slice a l.length cap] 29)) a l := h.to (u.alloc _)
  have HV : Hid (∀ v : Later (u.val.alloc (.cells #[.int .i64 m, .slice a l.length cap] 29)).heap.size (u.val.alloc (.cells #[.int .i64 m, .slice a l.length cap] 29)), ∃ w : Later B W, w.val = v.val) := Lib.hid (fun v => ⟨(u.alloc _).up v, rfl⟩)
  have q0 : ∀ w : Later (u.val.alloc (.cells #[.int .i64 m, .slice a l.length cap] 29)).heap.size (u.val.alloc (.cells #[.int .i64 m, .slice a l.length cap] 29)), w.val.cell? ⟨u.val.heap.size, 0, none⟩ = some (.int .i64 m) := fun w => (T0.out.keep w.below).c0
  have q1 : ∀ w : Later (u.val.alloc (.cells #[.int .i64 m, .slice a l.length cap] 29)).heap.size (u.val.alloc (.cells #[.int .i64 m, .slice a l.length cap] 29)), w.val.cell? ⟨u.val.heap.size, 1, none⟩ = some (.slice a l.length cap) := fun w => (T0.out.keep w.below).c1
  have p0 : (u.val.alloc (.cells #[.int .i64 m, .slice a l.length cap] 29)).cell? ⟨u.val.heap.size, 0, none⟩ = some (.int .i64 m) := T0.out.c0
  have p1 : (u.val.alloc (.cells #[.int .i64 m, .slice a l.length cap] 29)).cell? ⟨u.val.heap.size, 1, none⟩ = some (.slice a l.length cap) := T0.out.c1
  have K : Hid (Calls Try.prog 51 #[.agg #[.int .i64 m, .slice a l.length cap], .func (.func 55) #[] #[.pointer (some ⟨u.val.heap.size, 0, none⟩)]] (u.val.alloc (.cells #[.int .i64 m, .slice a l.length cap] 29)) (RetP (u.val.alloc (.cells #[.int .i64 m, .slice a l.length cap] 29)).heap.size (u.val.alloc (.cells #[.int .i64 m, .slice a l.length cap] 29)) (ListO (u.val.alloc (.cells #[.int .i64 m, .slice a l.length cap] 29)).heap.size (ints (those m (flatP m (toN l)))) 0))) := Lib.hid (c_axFamilyO (Later.self _) m hm l a cap hI hlen he 55 _ (flatP m (toN l)) (fun args w => by kernel_rfl) (fun x g c hg hT v s hs => c_flatTellP v m hm (toN l) g c s u.val.heap.size hs hg hT (Nat.lt_of_lt_of_le hrr x.size) (q0 x)))
  have HB : Hid (B ≤ (u.val.alloc (.cells #[.int .i64 m, .slice a l.length cap] 29)).heap.size) := Lib.hid (by have := u.size; simp; omega)
  clear h hI he
  go_enter Try.func29, Try.ntmps29
  go_wp2_with (first | (go_at_call 51; (with_reducible refine (K.out).mono ?_); rintro e _ ⟨_, rfl, ⟨_, _, rfl, hr⟩, v1, rfl⟩))
  go_ret2
  exact RetP.of (HV.out v1) ⟨_, _, rfl, hr.mono HB.out⟩
theorem c_axFlats {B : Nat} {W : World} (u : Later B W) (m : Nat) (hm : m ≤ 8) (l : List Int) (a : Option Addr) (cap : Nat) (h : IntsAt B W a l) (hlen : l.length ≤ 4611686018427387904) (he : MatIs (m : Int) l 0) :
    Calls Try.prog 29 #[.agg #[.int .i64 m, .slice a l.length cap]] u.val (RetP B W (ListE (ints (those m (flatP m (toN l)))) 0)) := listE_of (c_axFlatsO u m hm l a cap h hlen he)
set_option maxRecDepth 100000 in
set_option maxHeartbeats 4000000 in
theorem c_axFlats_no {B : Nat} {W : World} (u : Later B W) (n : Int) (l : List Int) (a : Option Addr) (cap : Nat) (e : Int) (h : IntsAt B W a l) (hlen : l.length ≤ 4611686018427387904) (he : MatIs n l e) (h0 : e ≠ 0) :
    Calls Try.prog 29 #[.agg #[.int .i64 n, .slice a l.length cap]] u.val (RetP B W (ListE [] e)) := by
  have T0 : Hid (Two (u.val.alloc (.cells #[.int .i64 n, .slice a l.length cap] 29)) u.val.heap.size 29 (.int .i64 n) (.slice a l.length cap)) := Lib.hid (Two.new _ _ _ _)
  have hrr : u.val.heap.size < (u.val.alloc (.cells #[.int .i64 n, .slice a l.length cap] 29)).heap.size := by simp
  have hI : IntsAt (u.val.alloc (.cells #[.int .i64 n, .slice a l.length cap] 29)).heap.size (u.val.alloc (.cells #[.int .i64 n, .slice a l.length cap] 29)) a l := h.to (u.alloc _)
  have HV : Hid (∀ v : Later (u.val.alloc (.cells #[.int .i64 n, .slice a l.length cap] 29)).heap.size (u.val.alloc (.cells #[.int .i64 n, .slice a l.length cap] 29)), ∃ w : Later B W, w.val = v.val) := Lib.hid (fun v => ⟨(u.alloc _).up v, rfl⟩)
  have q0 : ∀ w : Later (u.val.alloc (.cells #[.int .i64 n, .slice a l.length cap] 29)).heap.size (u.val.alloc (.cells #[.int .i64 n, .slice a l.length cap] 29)), w.val.cell? ⟨u.val.heap.size, 0, none⟩ = some (.int .i64 n) := fun w => (T0.out.keep w.below).c0
  have q1 : ∀ w : Later (u.val.alloc (.cells #[.int .i64 n, .slice a l.length cap] 29)).heap.size (u.val.alloc (.cells #[.int .i64 n, .slice a l.length cap] 29)), w.val.cell? ⟨u.val.heap.size, 1, none⟩ = some (.slice a l.length cap) := fun w => (T0.out.keep w.below).c1
  have p0 : (u.val.alloc (.cells #[.int .i64 n, .slice a l.length cap] 29)).cell? ⟨u.val.heap.size, 0, none⟩ = some (.int .i64 n) := T0.out.c0
  have p1 : (u.val.alloc (.cells #[.int .i64 n, .slice a l.length cap] 29)).cell? ⟨u.val.heap.size, 1, none⟩ = some (.slice a l.length cap) := T0.out.c1
  have K : Hid (Calls Try.prog 51 #[.agg #[.int .i64 n, .slice a l.length cap], .func (.func 55) #[] #[.pointer (some ⟨u.val.heap.size, 0, none⟩)]] (u.val.alloc (.cells #[.int .i64 n, .slice a l.length cap] 29)) (RetP (u.val.alloc (.cells #[.int .i64 n, .slice a l.length cap] 29)).heap.size (u.val.alloc (.cells #[.int .i64 n, .slice a l.length cap] 29)) (ListE [] e))) := Lib.hid (c_axFamily_no (Later.self _) n l a cap e hI hlen he h0 _ _)
  clear h hI he
  go_enter Try.func29, Try.ntmps29
  go_wp2_with (first | (go_at_call 51; (with_reducible refine (K.out).mono ?_); rintro e _ ⟨_, rfl, ⟨_, rfl, hr⟩, v1, rfl⟩))
  go_ret2
  exact RetP.of (HV.out v1) ⟨_, rfl, hr⟩

set_option maxRecDepth 100000 in
set_option maxHeartbeats 4000000 in
theorem c_axHypO {B : Nat} {W : World} (u : Later B W) (m : Nat) (hm : m ≤ 8) (l : List Int) (a : Option Addr) (cap : Nat) (h : IntsAt B W a l) (hlen : l.length ≤ 4611686018427387904) (he : MatIs (m : Int) l 0) :
    Calls Try.prog 33 #[.agg #[.int .i64 m, .slice a l.length cap]] u.val (RetP B W (ListO B (ints (those m (hypP m (toN l)))) 0)) := by
  have T0 : Hid (Two (u.val.alloc (.cells #[.int .i64 m, .slice a l.length cap] 29)) u.val.heap.size 29 (.int .i64 m) (.slice a l.length cap)) := Lib.hid (Two.new _ _ _ _)
  have hrr : u.val.heap.size < (u.val.alloc (.cells #[.int .i64 m, .slice a l.length cap] 29)).heap.size := by simp
  have hI : IntsAt (u.val.alloc (.cells #[.int .i64 m, .slice a l.length cap] 29)).heap.size (u.val.alloc (.cells #[.int .i64 m, .slice a l.length cap] 29)) a l := h.to (u.alloc _)
  have HV : Hid (∀ v : Later (u.val.alloc (.cells #[.int .i64 m, .slice a l.length cap] 29)).heap.size (u.val.alloc (.cells #[.int .i64 m, .slice a l.length cap] 29)), ∃ w : Later B W, w.val = v.val) := Lib.hid (fun v => ⟨(u.alloc _).up v, rfl⟩)
  have q0 : ∀ w : Later (u.val.alloc (.cells #[.int .i64 m, .slice a l.length cap] 29)).heap.size (u.val.alloc (.cells #[.int .i64 m, .slice a l.length cap] 29)), w.val.cell? ⟨u.val.heap.size, 0, none⟩ = some (.int .i64 m) := fun w => (T0.out.keep w.below).c0
  have q1 : ∀ w : Later (u.val.alloc (.cells #[.int .i64 m, .slice a l.length cap] 29)).heap.size (u.val.alloc (.cells #[.int .i64 m, .slice a l.length cap] 29)), w.val.cell? ⟨u.val.heap.size, 1, none⟩ = some (.slice a l.length cap) := fun w => (T0.out.keep w.below).c1
  have p0 : (u.val.alloc (.cells #[.int .i64 m, .slice a l.length cap] 29)).cell? ⟨u.val.heap.size, 0, none⟩ = some (.int .i64 m) := T0.out.c0
  have p1 : (u.val.alloc (.cells #[.int .i64 m, .slice a l.length cap] 29)).cell? ⟨u.val.heap.size, 1, none⟩ = some (.slice a l.length cap) := T0.out.c1
  have K : Hid (Calls Try.prog 51 #[.agg #[.int .i64 m, .slice a l.length cap], .func (.func 59) #[] #[.pointer (some ⟨u.val.heap.size, 0, none⟩)]] (u.val.alloc (.cells #[.int .i64 m, .slice a l.length cap] 29)) (RetP (u.val.alloc (.cells #[.int .i64 m, .slice a l.length cap] 29)).heap.size (u.val.alloc (.cells #[.int .i64 m, .slice a l.length cap] 29)) (ListO (u.val.alloc (.cells #[.int .i64 m, .slice a l.length cap] 29)).heap.size (ints (those m (hypP m (toN l)))) 0))) := Lib.hid (c_axFamilyO (Later.self _) m hm l a cap hI hlen he 59 _ (hypP m (toN l)) (fun args w => by kernel_rfl) (fun x g c hg hT v s hs => c_hypTellP v m hm (toN l) g c s u.val.heap.size hs hg hT (Nat.lt_of_lt_of_le hrr x.size) (q0 x)))
  have HB : Hid (B ≤ (u.val.alloc (.cells #[.int .i64 m, .slice a l.length cap] 29)).heap.size) := Lib.hid (by have := u.size; simp; omega)
  clear h hI he
  go_enter Try.func33, Try.ntmps33
  go_wp2_with (first | (go_at_call 51; (with_reducible refine (K.out).mono ?_); rintro e _ ⟨_, rfl, ⟨_, _, rfl, hr⟩, v1, rfl⟩))
  go_ret2
  exact RetP.of (HV.out v1) ⟨_, _, rfl, hr.mono HB.out⟩
theorem c_axHyp {B : Nat} {W : World} (u : Later B W) (m : Nat) (hm : m ≤ 8) (l : List Int) (a : Option Addr) (cap : Nat) (h : IntsAt B W a l) (hlen : l.length ≤ 4611686018427387904) (he : MatIs (m : Int) l 0) :
    Calls Try.prog 33 #[.agg #[.int .i64 m, .slice a l.length cap]] u.val (RetP B W (ListE (ints (those m (hypP m (toN l)))) 0)) := listE_of (c_axHypO u m hm l a cap h hlen he)
set_option maxRecDepth 100000 in
set_option maxHeartbeats 4000000 in
theorem c_axHyp_no {B : Nat} {W : World} (u : Later B W) (n : Int) (l : List Int) (a : Option Addr) (cap : Nat) (e : Int) (h : IntsAt B W a l) (hlen : l.length ≤ 4611686018427387904) (he : MatIs n l e) (h0 : e ≠ 0) :
    Calls Try.prog 33 #[.agg #[.int .i64 n, .slice a l.length cap]] u.val (RetP B W (ListE [] e)) := by
  have T0 : Hid (Two (u.val.alloc (.cells #[.int .i64 n, .slice a l.length cap] 29)) u.val.heap.size 29 (.int .i64 n) (.slice a l.length cap)) := Lib.hid (Two.new _ _ _ _)
  have hrr : u.val.heap.size < (u.val.alloc (.cells #[.int .i64 n, .slice a l.length cap] 29)).heap.size := by simp
  have hI : IntsAt (u.val.alloc (.cells #[.int .i64 n, .slice a l.length cap] 29)).heap.size (u.val.alloc (.cells #[.int .i64 n, .slice a l.length cap] 29)) a l := h.to (u.alloc _)
  have HV : Hid (∀ v : Later (u.val.alloc (.cells #[.int .i64 n, .slice a l.length cap] 29)).heap.size (u.val.alloc (.cells #[.int .i64 n, .slice a l.length cap] 29)), ∃ w : Later B W, w.val = v.val) := Lib.hid (fun v => ⟨(u.alloc _).up v, rfl⟩)
  have q0 : ∀ w : Later (u.val.alloc (.cells #[.int .i64 n, .slice a l.length cap] 29)).heap.size (u.val.alloc (.cells #[.int .i64 n, .slice a l.length cap] 29)), w.val.cell? ⟨u.val.heap.size, 0, none⟩ = some (.int .i64 n) := fun w => (T0.out.keep w.below).c0
  have q1 : ∀ w : Later (u.val.alloc (.cells #[.int .i64 n, .slice a l.length cap] 29)).heap.size (u.val.alloc (.cells #[.int .i64 n, .slice a l.length cap] 29)), w.val.cell? ⟨u.val.heap.size, 1, none⟩ = some (.slice a l.length cap) := fun w => (T0.out.keep w.below).c1
  have p0 : (u.val.alloc (.cells #[.int .i64 n, .slice a l.length cap] 29)).cell? ⟨u.val.heap.size, 0, none⟩ = some (.int .i64 n) := T0.out.c0
  have p1 : (u.val.alloc (.cells #[.int .i64 n, .slice a l.length cap] 29)).cell? ⟨u.val.heap.size, 1, none⟩ = some (.slice a l.length cap) := T0.out.c1
  have K : Hid (Calls Try.prog 51 #[.agg #[.int .i64 n, .slice a l.length cap], .func (.func 59) #[] #[.pointer (some ⟨u.val.heap.size, 0, none⟩)]] (u.val.alloc (.cells #[.int .i64 n, .slice a l.length cap] 29)) (RetP (u.val.alloc (.cells #[.int .i64 n, .slice a l.length cap] 29)).heap.size (u.val.alloc (.cells #[.int .i64 n, .slice a l.length cap] 29)) (ListE [] e))) := Lib.hid (c_axFamily_no (Later.self _) n l a cap e hI hlen he h0 _ _)
  clear h hI he
  go_enter Try.func33, Try.ntmps33
  go_wp2_with (first | (go_at_call 51; (with_reducible refine (K.out).mono ?_); rintro e _ ⟨_, rfl, ⟨_, rfl, hr⟩, v1, rfl⟩))
  go_ret2
  exact RetP.of (HV.out v1) ⟨_, rfl, hr⟩

end Go.Proofs.Ytmcffbmhkbijlaa
