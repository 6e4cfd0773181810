
/-
  axioms.made: the greatest of the sets that a function value takes; they must be a matroid that says what was handed in.
-/
import Derived.Test.YtmcffbmhkbijlaaPk15
import Derived.Test.YtmcffbmhkbijlaaPk21
import Derived.Test.YtmcffbmhkbijlaaPk22
import Derived.Test.YtmcffbmhkbijlaaPk06
namespace Go.Proofs.Ytmcffbmhkbijlaa
open Go.RowKit
set_option linter.unusedVariables false

set_option maxRecDepth 100000 in
set_option maxHeartbeats 16000000 in
theorem c_axMade {B : Nat} {W : World} (u : Later B W) (m : Nat) (hm : m ≤ 8) (k : FuncId) (caps : Array Value) (p : Nat → Bool) (hpl : Plain k) (hk : Tells B W k caps m p) (ka : FuncId) (hpa : Plain ka) (e : Int) (he : MatIs (m : Int) (ints (biggest (those m p))) e) (X want : List Int) (hX : X.length ≤ 1048576)
    (ha : e = 0 → ∀ (v : Later B W) (ad : Option Addr) (cp : Nat), IntsAt v.val.heap.size v.val ad (ints (biggest (those m p))) → Calls Try.prog ka #[.agg #[.int .i64 m, .slice ad (ints (biggest (those m p))).length cp]] v.val (RetP v.val.heap.size v.val (ListE X 0)))
    (aw : Option Addr) (cw : Nat) (hw : IntsAt B W aw want) (ok : Bool) (hok0 : e ≠ 0 → ok = false) (hok1 : e = 0 → (ok = true ↔ X = want)) :
    Calls Try.prog 19 #[.int .i64 m, .func (.func k) #[] caps, .func (.func ka) #[] #[], .slice aw want.length cw] u.val (RetP B W (MatTO B (mdN ok m) (mdX ok (biggest (those m p))) (mdE ok))) := by
  have hb := bit_le m hm
  have hB := u.size
  have bc := bit_cast m
  have wb := IntWalk.i64_in (bit m : Int) (by omega)
  have k1 : (u.val.alloc (.cells #[.int .i64 0, .slice none 0 0] 29)).heap.size = u.val.heap.size + 1 := by simp
  have X4 : Hid (RowL ((u.val.alloc (.cells #[.int .i64 0, .slice none 0 0] 29)).alloc (.cells #[.int .i64 m, .slice none 0 0] 29)) u.val.heap.size 29 [.int .i64 0, .slice none 0 0]) := Lib.hid ((RowL.new u.val 29 _).keep ((Below.refl _ _).alloc (Nat.le_refl _) _))
  have X5 : Hid (RowL ((u.val.alloc (.cells #[.int .i64 0, .slice none 0 0] 29)).alloc (.cells #[.int .i64 m, .slice none 0 0] 29)) (u.val.heap.size + 1) 29 [.int .i64 m, .slice none 0 0]) := Lib.hid (by
    have h := RowL.new (u.val.alloc (.cells #[.int .i64 0, .slice none 0 0] 29)) 29 [.int .i64 m, .slice none 0 0]
    rwa [k1] at h)
  have hYs : Hid (((u.val.alloc (.cells #[.int .i64 0, .slice none 0 0] 29)).alloc (.cells #[.int .i64 m, .slice none 0 0] 29)).heap.size = u.val.heap.size + 2) := Lib.hid (by simp)
  have HLY : Hid (∃ w : Later B W, w.val = ((u.val.alloc (.cells #[.int .i64 0, .slice none 0 0] 29)).alloc (.cells #[.int .i64 m, .slice none 0 0] 29))) := Lib.hid ⟨(u.alloc _).alloc _, rfl⟩
  have HG := Lib.hid (grow_all p m)
  have hp1 : ∀ (args : Array Value) (w : World), (callFunc k args).run Try.prog w = .ok (.enter k args) w := hpl
  have hp2 : ∀ (args : Array Value) (w : World), (callFunc ka args).run Try.prog w = .ok (.enter ka args) w := hpa
  have HK := Lib.hid hk
  have HMe := Lib.hid he
  have HAg := Lib.hid ha
  have HW := Lib.hid hw
  have HO0 := Lib.hid hok0
  have HO1 := Lib.hid hok1
  clear hk k1 hpl hpa he ha hw hok0 hok1
  go_enter Try.func19, Try.ntmps19
  go_upto_region 2 with fail
  generalize ((u.val.alloc (.cells #[.int .i64 0, .slice none 0 0] 29)).alloc (.cells #[.int .i64 m, .slice none 0 0] 29)) = Y at *
  generalize u.val.heap.size = gu at *
  obtain ⟨z, hz⟩ := HLY.out
  rw [← hz] at X4 X5 hYs ⊢
  clear hz HLY u
  have hYss := hYs.out
  have HX4 : Hid (RowL z.val gu 29 [.int .i64 0, .slice none 0 0]) := X4
  have HX5 : Hid (RowL z.val (gu + 1) 29 [.int .i64 m, .slice none 0 0]) := X5
  clear X4 X5 hYs
  go_wp2
  go_loopw [11, 20] (fun mo iv wr => ∃ (s : Nat) (ad : Option Addr) (cp : Nat) (v : Later B W), s ≤ bit m ∧ iv = .int .i64 s ∧ mo = .int .i64 (grow p s).2 ∧ wr = v.val ∧ Hid (RowL v.val (gu + 1) 29 [.int .i64 m, .slice ad (ints (grow p s).1).length cp]) ∧ Hid (Own (gu + 2) v.val ad cp (ints (grow p s).1)) ∧ Hid (RowL v.val gu 29 [.int .i64 0, .slice none 0 0])) (fun _ i _ => bit m - (intOf i).toNat)
  case atStart => exact ⟨0, none, 0, z, by omega, rfl, rfl, rfl, HX5, Lib.hid (Own.nil _ _), HX4⟩
  case round =>
    clear z HX4 HX5 hYss
    obtain ⟨s, ad, cp, v, hs, rfl, rfl, rfl, H5, HO, H4⟩ := hrel
    have hgv : gu + 1 < v.val.heap.size := H5.out.lt
    obtain ⟨hlo, hhi, hln⟩ := grow_bound p s
    by_cases hlt : s < bit m
    · have hm1 : Hid (s + 1 ≤ bit m) := Lib.hid hlt
      have KS : Hid (∀ w : Later v.val.heap.size v.val, Calls Try.prog 46 #[.int .i64 s] w.val (Ret v.val.heap.size v.val (.int .i64 (sz s)))) := Lib.hid (fun w => c_size_axioms w s (by omega))
      have KP := Lib.hid (fun w : Later v.val.heap.size v.val => HK.out v w s hlt)
      have hz8 := sz_le s
      have HEno := Lib.hid (@grow_no p s)
      have HEnew := Lib.hid (@grow_new p s)
      have HEmore := Lib.hid (@grow_more p s)
      have hil : Hid ((ints (grow p s).1).length ≤ 256) := Lib.hid (by rw [ints_len]; omega)
      rcases btf (p s) with g1 | g1
      · rw [g1] at KP
        rcases ilt (grow p s).2 (sz s : Int) with ⟨h2, d2⟩ | ⟨h2, d2⟩
        · have HN := Lib.hid (HEnew.out g1 h2)
          have hee : ((sz s : Int) == (sz s : Int)) = true := by simp
          have F3 : ∀ w : Later v.val.heap.size v.val, w.val.cell? ⟨gu + 1, 1, none⟩ = some (.slice ad (ints (grow p s).1).length cp) := fun w => (H5.out.keep w.below).cell rfl
          have Z3 : ∀ w : Later v.val.heap.size v.val, w.val.frozen? ⟨gu + 1, 1, none⟩ = false := fun w => (H5.out.keep w.below).fz 1
          have H1 := Lib.hid (And.intro h2 g1)
          clear HEno HEnew HEmore h2 g1
          have F4 : ∀ (w3 : Later v.val.heap.size v.val) (x : Value), (w3.val.setCell ⟨gu + 1, 1, none⟩ x).cell? ⟨gu + 1, 1, none⟩ = some x := fun w3 x => ((H5.out.keep w3.below).set 1 x).cell rfl
          obtain ⟨mo, hmo⟩ : ∃ mo, mo = (grow p s).2 := ⟨_, rfl⟩
          rw [← hmo] at d2 ⊢
          clear hmo hlo hhi
          obtain ⟨y, hy⟩ : ∃ y : Later v.val.heap.size v.val, y.val = v.val := ⟨Later.self _, rfl⟩
          rw [← hy]
          clear hy
          go_upto_region 10 with (first | (go_at_call 46; (with_reducible refine (KS.out _).mono ?_); rintro e _ ⟨rfl, v1, rfl⟩) | ((with_reducible refine (KP.out _).mono ?_); rintro e _ ⟨rfl, v0, rfl⟩) | fail)
          obtain ⟨x, hx⟩ : ∃ x : Later B W, x.val = v1.val.setCell ⟨gu + 1, 1, none⟩ (.slice none 0 0) := later_set ⟨v.up v1, rfl⟩ (by omega) _
          have Q5 : Hid (RowL x.val (gu + 1) 29 [.int .i64 m, .slice none ([] : List Int).length 0]) := Lib.hid (by rw [hx]; exact (H5.out.keep v1.below).set 1 _)
          have Q4 : Hid (RowL x.val gu 29 [.int .i64 0, .slice none 0 0]) := Lib.hid (by rw [hx]; exact (H4.out.keep v1.below).apart (by omega) 1 _)
          have QO : Hid (Own (gu + 2) x.val none 0 ([] : List Int)) := Lib.hid (Own.nil _ _)
          have QE : Hid (ints [s] = ([] : List Int) ++ [(s : Int)]) := Lib.hid rfl
          have QL : Hid (([] : List Int).length ≤ 256) := Lib.hid (by simp)
          rw [← hx]
          clear hx F3 Z3 F4 H5 H4 HO KS KP hil hln
          have KS2 : Hid (∀ w : Later x.val.heap.size x.val, Calls Try.prog 46 #[.int .i64 s] w.val (Ret x.val.heap.size x.val (.int .i64 (sz s)))) := Lib.hid (fun w => c_size_axioms w s (by omega))
          have F5 : ∀ (w3 : Later x.val.heap.size x.val), w3.val.cell? ⟨gu + 1, 1, none⟩ = some (.slice none ([] : List Int).length 0) := fun w3 => (Q5.out.keep w3.below).cell rfl
          have F6 : ∀ (w3 : Later x.val.heap.size x.val) (w : Later (gu + 2) w3.val), w.val.cell? ⟨gu + 1, 1, none⟩ = some (.slice none ([] : List Int).length 0) := fun w3 w => ((Q5.out.keep w3.below).keep_at w.below (by omega)).cell rfl
          have Z6 : ∀ (w3 : Later x.val.heap.size x.val) (w : Later (gu + 2) w3.val), w.val.frozen? ⟨gu + 1, 1, none⟩ = false := fun w3 w => ((Q5.out.keep w3.below).keep_at w.below (by omega)).fz 1
          have hxs := Q5.out.lt
          have hsz2 : ∀ w : Later x.val.heap.size x.val, gu + 2 ≤ w.val.heap.size := fun w => by have := w.size; omega
          obtain ⟨y2, hy2⟩ : ∃ y2 : Later x.val.heap.size x.val, y2.val = x.val := ⟨Later.self _, rfl⟩
          rw [← hy2]
          clear hy2
          go_wp2_with (first | (go_at_call 46; (with_reducible refine (KS2.out _).mono ?_); rintro e _ ⟨rfl, v1, rfl⟩) | (at_builtin; refine wpList_push (B := gu + 2) (W := v1.val) (w := v1.val) (Below.refl _ _) (hsz2 v1) rfl _ _ rfl ([] : List Int) none 0 (s : Int) rfl (QO.out.keep v1.below) rfl (by have := QL.out; omega) ?_; intro u2 ad2 cp2 hown; have HOwn := Lib.hid hown; clear hown) | fail)
          go_roundw
          case rel =>
            have hb0 : B ≤ gu + 2 := by omega
            have hu2 := u2.size
            obtain ⟨x1, hx1⟩ : ∃ x' : Later B W, x'.val = u2.val := ⟨(x.up v1).to u2.val (u2.below.mono hb0), rfl⟩
            obtain ⟨x2, hx2⟩ := later_set ⟨x1, hx1⟩ (g := gu + 1) (i := 1) (by omega) (.slice ad2 (([] : List Int) ++ [(s : Int)]).length cp2)
            refine ⟨s+1, ad2, cp2, x2, hm1.out, by go_num, by rw [HN.out], by rw [hx2]; rfl, Lib.hid ?_, Lib.hid ?_, Lib.hid ?_⟩
            · rw [HN.out, hx2]
              show RowL _ _ _ [_, .slice ad2 (ints _).length cp2]
              rw [QE.out]
              exact (((Q5.out.keep v1.below).keep_at u2.below (by omega)).set 1 _)
            · rw [HN.out, hx2]
              show Own _ _ _ _ (ints _)
              rw [QE.out]
              exact HOwn.out.set (by omega) _
            · rw [hx2]
              exact (((Q4.out.keep v1.below).keep_at u2.below (by omega)).apart (by omega) 1 _)
          case measure => have := hm1.out; simp [intOf]; omega
        · by_cases h3 : (grow p s).2 = sz s
          · have HN := Lib.hid (HEmore.out g1 h3)
            have hee : ((sz s : Int) == (sz s : Int)) = true := by simp
            have QE : Hid (ints ((grow p s).1 ++ [s]) = ints (grow p s).1 ++ [(s : Int)]) := Lib.hid (ints_snoc _ _)
            have QL := hil
            have H3 := Lib.hid h3
            rw [h3] at d2 ⊢
            clear HEno HEnew HEmore h2 g1 h3 hlo hhi
            obtain ⟨y, hy⟩ : ∃ y : Later v.val.heap.size v.val, y.val = v.val := ⟨Later.self _, rfl⟩
            rw [← hy]
            clear hy
            go_upto_region 10 with (first | (go_at_call 46; (with_reducible refine (KS.out _).mono ?_); rintro e _ ⟨rfl, v1, rfl⟩) | ((with_reducible refine (KP.out _).mono ?_); rintro e _ ⟨rfl, v0, rfl⟩) | fail)
            obtain ⟨x, hx⟩ : ∃ x : Later B W, x.val = v1.val := ⟨v.up v1, rfl⟩
            have Q5 : Hid (RowL x.val (gu + 1) 29 [.int .i64 m, .slice ad (ints (grow p s).1).length cp]) := Lib.hid (by rw [hx]; exact H5.out.keep v1.below)
            have Q4 : Hid (RowL x.val gu 29 [.int .i64 0, .slice none 0 0]) := Lib.hid (by rw [hx]; exact H4.out.keep v1.below)
            have QO : Hid (Own (gu + 2) x.val ad cp (ints (grow p s).1)) := Lib.hid (by rw [hx]; exact HO.out.keep v1.below)
            rw [← hx]
            clear hx H5 H4 HO KS KP hil hln
            obtain ⟨T, hT⟩ : ∃ T, T = ints (grow p s).1 := ⟨_, rfl⟩
            rw [← hT] at Q5 QO QE QL
            clear hT
            have KS2 : Hid (∀ w : Later x.val.heap.size x.val, Calls Try.prog 46 #[.int .i64 s] w.val (Ret x.val.heap.size x.val (.int .i64 (sz s)))) := Lib.hid (fun w => c_size_axioms w s (by omega))
            have F5 : ∀ (w3 : Later x.val.heap.size x.val), w3.val.cell? ⟨gu + 1, 1, none⟩ = some (.slice ad T.length cp) := fun w3 => (Q5.out.keep w3.below).cell rfl
            have F6 : ∀ (w3 : Later x.val.heap.size x.val) (w : Later (gu + 2) w3.val), w.val.cell? ⟨gu + 1, 1, none⟩ = some (.slice ad T.length cp) := fun w3 w => ((Q5.out.keep w3.below).keep_at w.below (by omega)).cell rfl
            have Z6 : ∀ (w3 : Later x.val.heap.size x.val) (w : Later (gu + 2) w3.val), w.val.frozen? ⟨gu + 1, 1, none⟩ = false := fun w3 w => ((Q5.out.keep w3.below).keep_at w.below (by omega)).fz 1
            have hxs := Q5.out.lt
            have hsz2 : ∀ w : Later x.val.heap.size x.val, gu + 2 ≤ w.val.heap.size := fun w => by have := w.size; omega
            obtain ⟨y2, hy2⟩ : ∃ y2 : Later x.val.heap.size x.val, y2.val = x.val := ⟨Later.self _, rfl⟩
            rw [← hy2]
            clear hy2
            go_wp2_with (first | (go_at_call 46; (with_reducible refine (KS2.out _).mono ?_); rintro e _ ⟨rfl, v1, rfl⟩) | (at_builtin; refine wpList_push (B := gu + 2) (W := v1.val) (w := v1.val) (Below.refl _ _) (hsz2 v1) rfl _ _ rfl T ad cp (s : Int) rfl (QO.out.keep v1.below) rfl (by have := QL.out; omega) ?_; intro u2 ad2 cp2 hown; have HOwn := Lib.hid hown; clear hown) | fail)
            go_roundw
            case rel =>
              have hb0 : B ≤ gu + 2 := by omega
              have hu2 := u2.size
              obtain ⟨x1, hx1⟩ : ∃ x' : Later B W, x'.val = u2.val := ⟨(x.up v1).to u2.val (u2.below.mono hb0), rfl⟩
              obtain ⟨x2, hx2⟩ := later_set ⟨x1, hx1⟩ (g := gu + 1) (i := 1) (by omega) (.slice ad2 (T ++ [(s : Int)]).length cp2)
              refine ⟨s+1, ad2, cp2, x2, hm1.out, by go_num, by rw [HN.out]; exact congrArg _ H3.out.symm, by rw [hx2]; simp, Lib.hid ?_, Lib.hid ?_, Lib.hid ?_⟩
              · rw [HN.out, hx2]
                show RowL _ _ _ [_, .slice ad2 (ints _).length cp2]
                rw [QE.out]
                exact (((Q5.out.keep v1.below).keep_at u2.below (by omega)).set 1 _)
              · rw [HN.out, hx2]
                show Own _ _ _ _ (ints _)
                rw [QE.out]
                exact HOwn.out.set (by omega) _
              · rw [hx2]
                exact (((Q4.out.keep v1.below).keep_at u2.below (by omega)).apart (by omega) 1 _)
            case measure => have := hm1.out; simp [intOf]; omega
          · have h4 : (sz s : Int) < (grow p s).2 := by omega
            have HN := Lib.hid (HEno.out (fun c => by omega))
            have dne : ((sz s : Int) == (grow p s).2) = false := by rw [beq_eq_false_iff_ne]; omega
            have H1 := Lib.hid (And.intro h2 (And.intro h3 h4))
            clear HEno HEnew HEmore h2 h3 h4 g1
            obtain ⟨mo, hmo⟩ : ∃ mo, mo = (grow p s).2 := ⟨_, rfl⟩
            rw [← hmo] at d2 dne ⊢
            have HMo := Lib.hid hmo
            clear hmo hlo hhi
            have KS2 : Hid (∀ w : Later v.val.heap.size v.val, Calls Try.prog 46 #[.int .i64 s] w.val (Ret w.val.heap.size w.val (.int .i64 (sz s)))) := Lib.hid (fun w => c_size_axioms (Later.self w.val) s (by omega))
            obtain ⟨y, hy⟩ : ∃ y : Later v.val.heap.size v.val, y.val = v.val := ⟨Later.self _, rfl⟩
            rw [← hy]
            clear hy
            go_upto_region 10 with (first | (go_at_call 46; (with_reducible refine (KS.out _).mono ?_); rintro e _ ⟨rfl, v1, rfl⟩) | ((with_reducible refine (KP.out _).mono ?_); rintro e _ ⟨rfl, v0, rfl⟩) | fail)
            have K3 := Lib.hid (KS2.out v1)
            clear KS KP KS2
            go_wp2_with (first | (go_at_call 46; (with_reducible refine (K3.out).mono ?_); rintro e _ ⟨rfl, v2, rfl⟩) | fail)
            go_roundw
            case rel => exact ⟨s+1, ad, cp, (v.up v1).up v2, hm1.out, by go_num, by rw [HN.out, HMo.out], rfl, Lib.hid (by rw [HN.out]; exact (H5.out.keep v1.below).keep v2.below), Lib.hid (by rw [HN.out]; exact (HO.out.keep v1.below).keep v2.below), Lib.hid ((H4.out.keep v1.below).keep v2.below)⟩
            case measure => have := hm1.out; simp [intOf]; omega
      · rw [g1] at KP
        have HN : Hid (grow p (s + 1) = grow p s) := Lib.hid (HEno.out (fun c => by rw [g1] at c; cases c.1))
        clear HEno HEnew HEmore g1
        obtain ⟨mo, hmo⟩ : ∃ mo, mo = (grow p s).2 := ⟨_, rfl⟩
        rw [← hmo]
        have HMo := Lib.hid hmo
        clear hmo hlo hhi
        obtain ⟨y, hy⟩ : ∃ y : Later v.val.heap.size v.val, y.val = v.val := ⟨Later.self _, rfl⟩
        rw [← hy]
        clear hy
        go_wp2_with (first | ((with_reducible refine (KP.out _).mono ?_); rintro e _ ⟨rfl, v1, rfl⟩) | fail)
        go_roundw
        case rel => exact ⟨s+1, ad, cp, v.up v1, hm1.out, by go_num, by rw [HN.out, HMo.out], rfl, Lib.hid (by rw [HN.out]; exact H5.out.keep v1.below), Lib.hid (by rw [HN.out]; exact HO.out.keep v1.below), Lib.hid (H4.out.keep v1.below)⟩
        case measure => have := hm1.out; simp [intOf]; omega
    · have hse : s = bit m := by omega
      subst hse
      rw [HG.out] at H5 HO
      have hAl : (biggest (those m p)).length ≤ 256 := by
        have := HG.out
        rw [← this]; omega
      obtain ⟨A, hA⟩ : ∃ A, A = biggest (those m p) := ⟨_, rfl⟩
      rw [← hA] at H5 HO hAl HMe HAg ⊢
      have HA := Lib.hid hA
      have hil : Hid ((ints A).length = A.length) := Lib.hid (ints_len A)
      clear HK HG hlo hhi hln hlt hs hA
      generalize (grow p (bit m)).2 = mo at *
      have F50 : ∀ w : Later v.val.heap.size v.val, w.val.cell? ⟨gu + 1, 0, none⟩ = some (.int .i64 m) := fun w => (H5.out.keep w.below).cell rfl
      have F51 : ∀ w : Later v.val.heap.size v.val, w.val.cell? ⟨gu + 1, 1, none⟩ = some (.slice ad (ints A).length cp) := fun w => (H5.out.keep w.below).cell rfl
      have F40 : ∀ w : Later v.val.heap.size v.val, w.val.cell? ⟨gu, 0, none⟩ = some (.int .i64 0) := fun w => (H4.out.keep w.below).cell rfl
      have Z40 : ∀ w : Later v.val.heap.size v.val, w.val.frozen? ⟨gu, 0, none⟩ = false := fun w => (H4.out.keep w.below).fz 0
      have F41 : ∀ (w : Later v.val.heap.size v.val) (x : Value), (w.val.setCell ⟨gu, 0, none⟩ x).cell? ⟨gu, 1, none⟩ = some (.slice none 0 0) := fun w x => ((H4.out.keep w.below).set 0 x).cell rfl
      have Z41 : ∀ (w : Later v.val.heap.size v.val) (x : Value), (w.val.setCell ⟨gu, 0, none⟩ x).frozen? ⟨gu, 1, none⟩ = false := fun w x => ((H4.out.keep w.below).set 0 x).fz 1
      have KC : Hid (∀ w : Later v.val.heap.size v.val, Calls Try.prog 32 #[.agg #[.int .i64 m, .slice ad (ints A).length cp]] w.val (Ret v.val.heap.size v.val (.int .i64 e))) := Lib.hid (fun w => c_axCheck w m (ints A) ad cp e HO.out.reads (by rw [hil.out]; omega) HMe.out)
      have KA : Hid (e = 0 → ∀ w : Later v.val.heap.size v.val, Calls Try.prog ka #[.agg #[.int .i64 m, .slice ad (ints A).length cp]] w.val (RetP w.val.heap.size w.val (ListE X 0))) := Lib.hid (fun h0 w => HAg.out h0 (v.up w) ad cp ((HO.out.keep w.below).reads))
      have KE : Hid (∀ (w : Later v.val.heap.size v.val) (a2 : Option Addr) (c2 : Nat), IntsAt w.val.heap.size w.val a2 X → Calls Try.prog 34 #[.slice a2 X.length c2, .slice aw want.length cw] w.val (Ret w.val.heap.size w.val (.bool (decide (X = want))))) := Lib.hid (fun w a2 c2 h => c_equalL (Later.self w.val) X want a2 aw c2 cw h (HW.out.to (v.up w)) hX)
      have HFin : Hid (∀ (w : Later v.val.heap.size v.val) (q : Bool) (x0 : Int) (x1 : Value), (x0 = mdN q m ∧ ∃ ad' cp', x1 = .slice ad' (mdX q A).length cp' ∧ Own (gu + 2) w.val ad' cp' (mdX q A)) → RetP B W (MatTO B (mdN q m) (mdX q A) (mdE q)) (.returned (.tuple #[.agg #[.int .i64 x0, x1], .int .i64 (mdE q)])) ((w.val.setCell ⟨gu, 0, none⟩ (.int .i64 x0)).setCell ⟨gu, 1, none⟩ x1)) := Lib.hid (fun w q x0 x1 h => by
        obtain ⟨rfl, ad', cp', rfl, hO'⟩ := h
        obtain ⟨z1, hz1⟩ := later_set ⟨v.up w, rfl⟩ (g := gu) (i := 0) hB (.int .i64 (mdN q m))
        obtain ⟨z2, hz2⟩ := later_set ⟨z1, hz1⟩ (g := gu) (i := 1) hB (.slice ad' (mdX q A).length cp')
        exact RetP.of ⟨z2, hz2⟩ ⟨ad', cp', rfl, ((hO'.set (by omega) _).set (by omega) _).mono (by omega)⟩)
      obtain ⟨y, hy⟩ : ∃ y : Later v.val.heap.size v.val, y.val = v.val := ⟨Later.self _, rfl⟩
      have f50 := F50 (Later.self v.val)
      rw [← hy]
      clear hy HMe HAg f50
      have hvB : gu + 2 ≤ v.val.heap.size := by have := H5.out.lt; omega
      rcases ieq e 0 with ⟨h0, d1, d2⟩ | ⟨h0, d1, d2⟩
      case inr =>
        have hok := HO0.out h0
        subst hok
        have H0 := Lib.hid h0
        clear h0 KA
        go_wp2_with (first | (go_at_call 32; (with_reducible refine (KC.out _).mono ?_); rintro e _ ⟨rfl, v1, rfl⟩) | fail)
        refine bodyPost_ret (results_row (vs := [.int .i64 0, .slice none 0 0]) rfl _ _ gu rfl (((H4.out.keep v1.below).set 0 _).set 1 _) Try.underlying29 (by kernel_rfl)) rfl ?_
        rw [HA.out.symm] at *
        exact HFin.out v1 false 0 _ ⟨rfl, none, 0, rfl, Own.nil _ _⟩
      subst h0
      cases ok
      · have HD : decide (X = want) = false := decide_eq_false (fun c => by have := (HO1.out rfl).2 c; cases this)
        go_wp2_with (first | (go_at_call 32; (with_reducible refine (KC.out _).mono ?_); rintro e _ ⟨rfl, v1, rfl⟩; have K2 := Lib.hid (KA.out rfl v1)) | ((with_reducible refine (K2.out).mono ?_); rintro e _ ⟨_, rfl, ⟨x1, rfl, a2, c2, rfl, hI, hn2⟩, v2, rfl⟩; have K3 : Hid (Calls Try.prog 34 #[.slice a2 X.length c2, .slice aw want.length cw] v2.val (Ret v2.val.heap.size v2.val (.bool false))) := Lib.hid (by have h9 := KE.out (v1.up v2) a2 c2 hI; rw [HD] at h9; exact h9); clear hI hn2) | (go_at_call 34; (with_reducible refine (K3.out).mono ?_); rintro e _ ⟨rfl, v3, rfl⟩; have f0 : v3.val.cell? ⟨gu + 1, 0, none⟩ = some (.int .i64 m) := F50 ((v1.up v2).up v3); have f1 : v3.val.cell? ⟨gu + 1, 1, none⟩ = some (.slice ad (ints A).length cp) := F51 ((v1.up v2).up v3); have f2 : v3.val.cell? ⟨gu, 0, none⟩ = some (.int .i64 0) := F40 ((v1.up v2).up v3); have f3 : v3.val.frozen? ⟨gu, 0, none⟩ = false := Z40 ((v1.up v2).up v3); have f4 : ∀ x : Value, (v3.val.setCell ⟨gu, 0, none⟩ x).cell? ⟨gu, 1, none⟩ = some (.slice none 0 0) := F41 ((v1.up v2).up v3); have f5 : ∀ x : Value, (v3.val.setCell ⟨gu, 0, none⟩ x).frozen? ⟨gu, 1, none⟩ = false := Z41 ((v1.up v2).up v3)) | fail)
        refine bodyPost_ret (results_row (vs := [.int .i64 0, .slice none 0 0]) rfl _ _ gu rfl (((H4.out.keep ((v1.up v2).up v3).below).set 0 _).set 1 _) Try.underlying29 (by kernel_rfl)) rfl ?_
        rw [HA.out.symm] at *
        exact HFin.out ((v1.up v2).up v3) false 0 _ ⟨rfl, none, 0, rfl, Own.nil _ _⟩
      · have HD : decide (X = want) = true := decide_eq_true ((HO1.out rfl).1 rfl)
        go_wp2_with (first | (go_at_call 32; (with_reducible refine (KC.out _).mono ?_); rintro e _ ⟨rfl, v1, rfl⟩; have K2 := Lib.hid (KA.out rfl v1)) | ((with_reducible refine (K2.out).mono ?_); rintro e _ ⟨_, rfl, ⟨x1, rfl, a2, c2, rfl, hI, hn2⟩, v2, rfl⟩; have K3 : Hid (Calls Try.prog 34 #[.slice a2 X.length c2, .slice aw want.length cw] v2.val (Ret v2.val.heap.size v2.val (.bool true))) := Lib.hid (by have h9 := KE.out (v1.up v2) a2 c2 hI; rw [HD] at h9; exact h9); clear hI hn2) | (go_at_call 34; (with_reducible refine (K3.out).mono ?_); rintro e _ ⟨rfl, v3, rfl⟩; have f0 : v3.val.cell? ⟨gu + 1, 0, none⟩ = some (.int .i64 m) := F50 ((v1.up v2).up v3); have f1 : v3.val.cell? ⟨gu + 1, 1, none⟩ = some (.slice ad (ints A).length cp) := F51 ((v1.up v2).up v3); have f2 : v3.val.cell? ⟨gu, 0, none⟩ = some (.int .i64 0) := F40 ((v1.up v2).up v3); have f3 : v3.val.frozen? ⟨gu, 0, none⟩ = false := Z40 ((v1.up v2).up v3); have f4 : ∀ x : Value, (v3.val.setCell ⟨gu, 0, none⟩ x).cell? ⟨gu, 1, none⟩ = some (.slice none 0 0) := F41 ((v1.up v2).up v3); have f5 : ∀ x : Value, (v3.val.setCell ⟨gu, 0, none⟩ x).frozen? ⟨gu, 1, none⟩ = false := Z41 ((v1.up v2).up v3)) | fail)
        refine bodyPost_ret (results_row (vs := [.int .i64 m, .slice ad (ints A).length cp]) rfl _ _ gu rfl (((H4.out.keep ((v1.up v2).up v3).below).set 0 _).set 1 _) Try.underlying29 (by kernel_rfl)) rfl ?_
        rw [HA.out.symm] at *
        exact HFin.out ((v1.up v2).up v3) true m _ ⟨rfl, ad, cp, rfl, HO.out.keep ((v1.up v2).up v3).below⟩
end Go.Proofs.Ytmcffbmhkbijlaa
