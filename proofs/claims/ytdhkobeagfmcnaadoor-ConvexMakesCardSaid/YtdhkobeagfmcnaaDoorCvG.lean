
/-
  convex.Ordered.
-/
import Derived.Test.YtdhkobeagfmcnaaDoorCvF
namespace Go.Proofs.YtdhkobeagfmcnaaDoor
open Go.RowKit
set_option linter.unusedVariables false

instance (es : List (Int × Int)) : Decidable (noLoop es) := by unfold noLoop; infer_instance
def ordRes (n : Nat) (es : List (Int × Int)) (e : Int) : List Int := if e = 0 ∧ noLoop es then ints (those n (ordDown es)) else []
def ordErr (es : List (Int × Int)) (e : Int) : Int := if e = 0 ∧ noLoop es then 0 else 3

set_option maxRecDepth 100000 in
set_option maxHeartbeats 20000000 in
theorem c_convexOrdered {B : Nat} {W : World} (u : Later B W) (n : Nat) (hn : n ≤ 8) (es : List (Int × Int)) (a : Option Addr) (cap : Nat) (he : EdgesAt B W a es) (hlen : es.length ≤ 4611686018427387904) (hG : edgesTo (n : Int) es es.length) (e : Int) (hC : ChkIs (n : Int) (ints (those n (ordDown es))) e) :
    Calls Tryd.prog 11 #[.int .i64 n, .slice a es.length cap] u.val (RetP B W (fun v w => ∃ ad cp, v = .tuple #[.slice ad (ordRes n es e).length cp, .int .i64 (ordErr es e)] ∧ IntsAt w.heap.size w ad (ordRes n es e))) := by
  have hb := bit_le n hn
  have bc := bit_cast n
  have w1 : IntKind.i64.wrap (bit n : Int) = (bit n : Int) := IntWalk.i64_in _ (by omega)
  have HE := Lib.hid he
  have HG := Lib.hid hG
  have HC := Lib.hid hC
  have d1 : decide ((n : Int) < 0) = false := decide_eq_false (by omega)
  have d2 : decide (8 < (n : Int)) = false := decide_eq_false (by omega)
  have d3 : decide (8 < n) = false := decide_eq_false (by omega)
  have HYes : Hid (e = 0 → noLoop es → ordRes n es e = ints (those n (ordDown es)) ∧ ordErr es e = 0) := Lib.hid (fun h1 h2 => by unfold ordRes ordErr; rw [if_pos ⟨h1, h2⟩, if_pos ⟨h1, h2⟩]; exact ⟨rfl, rfl⟩)
  have HNo : Hid (¬ (e = 0 ∧ noLoop es) → ordRes n es e = [] ∧ ordErr es e = 3) := Lib.hid (fun h => by unfold ordRes ordErr; rw [if_neg h, if_neg h]; exact ⟨rfl, rfl⟩)
  clear he hG hC
  go_enter Tryd.func11, Tryd.ntmps11
  go_wp2
  go_loopw [18] (fun i wr => ∃ (k : Nat) (v : Later B W), k ≤ es.length ∧ i = .int .i64 k ∧ wr = v.val) (fun i _ => es.length - (intOf i).toNat)
  case atStart => exact ⟨0, u, by omega, rfl, rfl⟩
  case round =>
    clear u
    obtain ⟨k, v, hk, rfl, rfl⟩ := hrel
    by_cases hlt : k < es.length
    · obtain ⟨be, offe, rfl, hbe, hce⟩ := HE.out.at (k := k) hlt
      have HX := HG.out k hlt
      obtain ⟨x, hx⟩ := Int.eq_ofNat_of_zero_le HX.1
      obtain ⟨y, hy⟩ := Int.eq_ofNat_of_zero_le HX.2.1
      have e1 := (hce v k hlt).1
      have e2 := (hce v k hlt).2
      rw [hx] at e1 HX
      rw [hy] at e2 HX
      have T1 : Two (v.val.alloc (.cells #[.int .i64 x, .int .i64 y] 28)) v.val.heap.size 28 (.int .i64 x) (.int .i64 y) := Two.new _ _ _ _
      have c0 := T1.c0
      have c1 := T1.c1
      have g1 : decide ((x : Int) < 0) = false := decide_eq_false (by omega)
      have g2 : decide ((y : Int) < 0) = false := decide_eq_false (by omega)
      have g3 : decide ((n : Int) ≤ (x : Int)) = false := decide_eq_false (by omega)
      have g4 : decide ((n : Int) ≤ (y : Int)) = false := decide_eq_false (by omega)
      have g5 : decide (n ≤ x) = false := decide_eq_false (by omega)
      have g6 : decide (n ≤ y) = false := decide_eq_false (by omega)
      clear HX hx hy hce T1
      go_wp2
      go_roundw
      case rel => exact ⟨k+1, v.alloc (.cells #[.int .i64 x, .int .i64 y] 28), by omega, by go_num, rfl⟩
      case measure => simp [intOf]; omega
    · have hke : k = es.length := by omega
      subst hke
      go_wp2
      go_loopw [8, 45] (fun o i wr => ∃ (s : Nat) (ad : Option Addr) (cp : Nat) (v : Later B W), s ≤ bit n ∧ i = .int .i64 s ∧ o = .slice ad (ints (thoseTo (ordDown es) s)).length cp ∧ wr = v.val ∧ Hid (Own B v.val ad cp (ints (thoseTo (ordDown es) s)))) (fun _ i _ => bit n - (intOf i).toNat)
      case atStart => exact ⟨0, none, 0, v, by omega, rfl, rfl, rfl, Own.nil _ _⟩
      case round =>
        clear v
        obtain ⟨s, ad, cp, v, hs, rfl, rfl, rfl, HO⟩ := hrel
        by_cases hlt : s < bit n
        · have hs8 : s < 256 := by omega
          obtain ⟨g, hg⟩ : ∃ g, g = v.val.heap.size := ⟨_, rfl⟩
          have T1 : RowL (v.val.alloc (.cells #[.int .i64 s] 3)) v.val.heap.size 3 [.int .i64 s] := RowL.new _ _ _
          have hr : v.val.heap.size < (v.val.alloc (.cells #[.int .i64 s] 3)).heap.size := by simp
          have HVU : Hid (∀ w : Later (v.val.alloc (.cells #[.int .i64 s] 3)).heap.size (v.val.alloc (.cells #[.int .i64 s] 3)), ∃ w' : Later v.val.heap.size v.val, w'.val = w.val) := Lib.hid (fun w => ⟨((Later.self v.val).alloc _).up w, rfl⟩)
          have c0 : ∀ w : Later (v.val.alloc (.cells #[.int .i64 s] 3)).heap.size (v.val.alloc (.cells #[.int .i64 s] 3)), w.val.cell? ⟨v.val.heap.size, 0, none⟩ = some (.int .i64 s) := fun w => (T1.keep w.below).cell rfl
          have K1 : Hid (Calls Tryd.prog 22 #[.slice a es.length cap, .func (.func 23) #[] #[.pointer (some ⟨v.val.heap.size, 0, none⟩)]] (v.val.alloc (.cells #[.int .i64 s] 3)) (Ret (v.val.alloc (.cells #[.int .i64 s] 3)).heap.size (v.val.alloc (.cells #[.int .i64 s] 3)) (.bool ((List.range es.length).any (barAt es s))))) := Lib.hid (c_containsEd (Later.self (v.val.alloc (.cells #[.int .i64 s] 3))) es a cap (HE.out.to (v.alloc _)) hlen 23 #[.pointer (some ⟨v.val.heap.size, 0, none⟩)] (barAt es s) (fun args w => by kernel_rfl) (fun w i hi => by
            have HX := HG.out i hi
            obtain ⟨x, hx⟩ := Int.eq_ofNat_of_zero_le HX.1
            obtain ⟨y, hy⟩ := Int.eq_ofNat_of_zero_le HX.2.1
            rw [hx, hy] at HX
            have e1 : barAt es s i = (s.testBit y && !s.testBit x) := by
              unfold barAt vA vB
              rw [hx, hy, Int.toNat_natCast, Int.toNat_natCast]
            rw [e1, hx, hy]
            exact c_ordBar w x y s v.val.heap.size (by omega) (by omega) hs8 hr (T1.cell rfl)))
          have HStp := Lib.hid (thoseTo_step (ordDown es) s)
          have HL : Hid ((ints (thoseTo (ordDown es) s)).length ≤ 256) := Lib.hid (by rw [ints_len]; have := thoseTo_len (ordDown es) s; omega)
          have HDn : Hid (ordDown es s = !(List.range es.length).any (barAt es s)) := Lib.hid rfl
          clear hg g T1 hr
          generalize thoseTo (ordDown es) s = L at *
          rcases btf ((List.range es.length).any (barAt es s)) with g1 | g1
          · rw [g1] at K1 HDn
            clear g1
            go_wp2_with (first | (go_at_call 22; (with_reducible refine (K1.out).mono ?_); rintro e _ ⟨rfl, v3, rfl⟩))
            go_roundw
            case rel =>
              have hne : ¬ ordDown es s = true := by rw [HDn.out]; decide
              obtain ⟨w', hw'⟩ := HVU.out v3
              refine ⟨s+1, ad, cp, v.up w', by omega, by go_num, ?_, hw'.symm, ?_⟩
              · rw [HStp.out, if_neg hne]
              · rw [HStp.out, if_neg hne]; exact HO.out.keep w'.below
            case measure => simp [intOf]; omega
          · rw [g1] at K1 HDn
            clear g1
            go_wp2_with (first | (go_at_call 22; (with_reducible refine (K1.out).mono ?_); rintro e _ ⟨rfl, v3, rfl⟩; have c3 := c0 v3) | (at_builtin; refine wpList_push (B := B) (W := W) (w := v3.val) ((v.alloc _).up v3).below ((v.alloc _).up v3).size rfl _ _ rfl (ints L) ad cp (s : Int) rfl (by obtain ⟨w', hw'⟩ := HVU.out v3; have := HO.out.keep w'.below; rwa [hw'] at this) rfl (by have := HL.out; omega) ?_; intro u2 ad2 cp2 hown))
            go_roundw
            case rel =>
              have hye : ordDown es s = true := by rw [HDn.out]; decide
              refine ⟨s+1, ad2, cp2, u2, by omega, by go_num, ?_, rfl, ?_⟩
              · rw [HStp.out, if_pos hye, ints_snoc]; simp
              · rw [HStp.out, if_pos hye, ints_snoc]; exact hown
            case measure => simp [intOf]; omega
        · have hse : s = bit n := by omega
          have HLe : Hid (thoseTo (ordDown es) s = those n (ordDown es)) := Lib.hid (by rw [hse]; rfl)
          have hle : (ints (thoseTo (ordDown es) s)).length ≤ 256 := by rw [ints_len]; have := thoseTo_len (ordDown es) s; omega
          have KC : Hid (Calls Tryd.prog 24 #[.int .i64 n, .slice ad (ints (thoseTo (ordDown es) s)).length cp] v.val (Ret v.val.heap.size v.val (.int .i64 e))) := Lib.hid (by
            have h1 := HC.out
            rw [← HLe.out] at h1
            exact c_convexCheck (Later.self v.val) n (ints (thoseTo (ordDown es) s)) ad cp e HO.out.reads (by omega) h1)
          have KS : Hid (∀ w : Later v.val.heap.size v.val, Calls Tryd.prog 22 #[.slice a es.length cap, .func (.func 25) #[] #[]] w.val (Ret v.val.heap.size v.val (.bool ((List.range es.length).any (fun i => (es.getD i (0,0)).1 == (es.getD i (0,0)).2))))) := Lib.hid (fun w => c_containsEd w es a cap (HE.out.to v) hlen 25 #[] (fun i => (es.getD i (0,0)).1 == (es.getD i (0,0)).2) (fun args w => by kernel_rfl) (fun w i hi => c_ordSame w _ _))
          have HN : Hid (noLoop es ↔ (List.range es.length).any (fun i => (es.getD i (0,0)).1 == (es.getD i (0,0)).2) = false) := Lib.hid (by
            rw [← Bool.not_eq_true, any_rangeI]
            constructor
            · rintro h ⟨i, hi, e⟩
              rw [beq_iff_eq] at e
              exact h i hi (by unfold vA vB; rw [e])
            · intro h i hi e
              have HX := HG.out i hi
              unfold vA vB at e
              exact h ⟨i, hi, by rw [beq_iff_eq]; omega⟩)
          have HR := Lib.hid HO.out.reads
          have d4 : decide ((s : Int) < (bit n : Int)) = false := decide_eq_false (by omega)
          have HLi : Hid (ints (thoseTo (ordDown es) s) = ints (those n (ordDown es))) := Lib.hid (by rw [HLe.out])
          clear HLe HO hle HC HG HE
          generalize ints (thoseTo (ordDown es) s) = L at *
          by_cases h0 : e = 0
          · subst h0
            rcases btf ((List.range es.length).any (fun i => (es.getD i (0,0)).1 == (es.getD i (0,0)).2)) with g1 | g1
            · have hn2 : ¬ noLoop es := fun c => by have := HN.out.1 c; rw [g1] at this; cases this
              have HQ2 := Lib.hid (HNo.out (fun c => hn2 c.2))
              rw [g1] at KS
              clear g1 HN hn2
              go_wp2_with (first | (go_at_call 24; (with_reducible refine (KC.out).mono ?_); rintro e _ ⟨rfl, v1, rfl⟩) | (go_at_call 22; (with_reducible refine (KS.out _).mono ?_); rintro e _ ⟨rfl, v2, rfl⟩))
              go_ret2
              exact RetP.mk (v.up v2) ⟨none, 0, by rw [HQ2.out.1, HQ2.out.2]; rfl, by rw [HQ2.out.1]; exact IntsAt.nil⟩
            · have HQ2 := Lib.hid (HYes.out rfl (HN.out.2 g1))
              rw [g1] at KS
              clear g1 HN
              go_wp2_with (first | (go_at_call 24; (with_reducible refine (KC.out).mono ?_); rintro e _ ⟨rfl, v1, rfl⟩) | (go_at_call 22; (with_reducible refine (KS.out _).mono ?_); rintro e _ ⟨rfl, v2, rfl⟩))
              go_ret2
              exact RetP.mk (v.up v2) ⟨ad, cp, by rw [HQ2.out.1, HQ2.out.2, ← HLi.out]; rfl, by rw [HQ2.out.1, ← HLi.out]; exact HR.out.to v2⟩
          · have HQ2 := Lib.hid (HNo.out (fun c => h0 c.1))
            have d5 : (e != 0) = true := by rw [bne_iff_ne]; exact h0
            clear h0 HN KS
            go_wp2_with (first | (go_at_call 24; (with_reducible refine (KC.out).mono ?_); rintro e _ ⟨rfl, v1, rfl⟩))
            go_ret2
            exact RetP.mk (v.up v1) ⟨none, 0, by rw [HQ2.out.1, HQ2.out.2]; rfl, by rw [HQ2.out.1]; exact IntsAt.nil⟩

end Go.Proofs.YtdhkobeagfmcnaaDoor
