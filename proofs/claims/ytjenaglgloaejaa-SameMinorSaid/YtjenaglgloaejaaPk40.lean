
/-
  same.restricted.
-/
import Derived.Test.YtjenaglgloaejaaPk27
namespace Go.Proofs.Ytjenaglgloaejaa
open Go.RowKit
set_option linter.unusedVariables false

/-- a basis of what is left: E the elements that are left, c contracted, of rank rk0 -/
def resB (ρ : Nat → Nat) (E : List Nat) (c rk0 s : Nat) : Bool := decide (sz s = rk0 ∧ ρ (img E s ||| c) = rk0 + ρ c)

set_option maxRecDepth 100000 in
set_option maxHeartbeats 16000000 in
theorem c_restricted {B : Nat} {W : World} (u : Later B W) (n left c rk0 g cg : Nat) (hn : n ≤ 8) (hleft : left < bit n) (hc : c < bit n) (ρ : Nat → Nat) (hg : g < B) (hT : ITab W g (bit n) (fun j => (ρ j : Int))) (h8 : ∀ s, s < bit n → ρ s ≤ 8) (hr0 : ρ (left ||| c) = rk0 + ρ c) :
    Calls Try.prog 25 #[.int .i64 n, .slice (some ⟨g, 0, none⟩) (bit n) cg, .int .i64 left, .int .i64 c] u.val (RetP B W (MatO B ((elemsTo left n).length : Nat) (ints (those (elemsTo left n).length (resB ρ (elemsTo left n) c rk0))))) := by
  have hbn := bit_le n hn
  have huB := u.size
  have hW1s : (u.val.alloc (.cells #[.int .i64 0, .slice none 0 0] 24)).heap.size = u.val.heap.size + 1 := by simp
  have HX : Hid (RowL (u.val.alloc (.cells #[.int .i64 0, .slice none 0 0] 24)) u.val.heap.size 24 [.int .i64 0, .slice none 0 0]) := Lib.hid (RowL.new _ _ _)
  have HV : Hid (∀ v : Later (u.val.alloc (.cells #[.int .i64 0, .slice none 0 0] 24)).heap.size (u.val.alloc (.cells #[.int .i64 0, .slice none 0 0] 24)), ∃ w : Later B W, w.val = v.val) := Lib.hid (fun v => ⟨(u.alloc _).up v, rfl⟩)
  have HTw : Hid (∀ v : Later (u.val.alloc (.cells #[.int .i64 0, .slice none 0 0] 24)).heap.size (u.val.alloc (.cells #[.int .i64 0, .slice none 0 0] 24)), ITab v.val g (bit n) (fun j => (ρ j : Int))) := Lib.hid (fun v => hT.keep_at ((u.alloc _).up v).below hg)
  obtain ⟨z, hz⟩ : ∃ z : Later (u.val.alloc (.cells #[.int .i64 0, .slice none 0 0] 24)).heap.size (u.val.alloc (.cells #[.int .i64 0, .slice none 0 0] 24)), z.val = (u.val.alloc (.cells #[.int .i64 0, .slice none 0 0] 24)) := ⟨Later.self _, rfl⟩
  have HR8 := Lib.hid h8
  have HR0 := Lib.hid hr0
  clear hT h8 hr0
  go_enter Try.func25, Try.ntmps25
  go_upto_region 1 with fail
  rw [← hz]
  clear hz
  generalize u.val.heap.size = g8 at *
  have hgx : g8 < (u.val.alloc (.cells #[.int .i64 0, .slice none 0 0] 24)).heap.size := by omega
  generalize (u.val.alloc (.cells #[.int .i64 0, .slice none 0 0] 24)) = W1 at *
  clear u
  go_wp2
  go_loopw [9, 18] (fun av iv wr => ∃ (i : Nat) (v : Later W1.heap.size W1) (ad : Option Addr) (cp : Nat), i ≤ n ∧ iv = .int .i64 i ∧ av = .slice ad (elemsTo left i).length cp ∧ wr = v.val ∧ Hid (Own W1.heap.size v.val ad cp (ints (elemsTo left i)))) (fun _ iv _ => n - (intOf iv).toNat)
  case atStart => exact ⟨0, z, none, 0, by omega, rfl, rfl, rfl, Lib.hid (Own.nil _ _)⟩
  case round =>
    clear z
    obtain ⟨i, v, ad, cp, hi, rfl, rfl, rfl, HO⟩ := hrel
    by_cases hlt : i < n
    · have s1 := shr_and left i (by omega)
      have HSt := Lib.hid (elemsTo_step left i)
      have hel := elemsTo_len left i
      rcases btf (left.testBit i) with g1 | g1
      · rw [g1] at s1 HSt
        rw [show ((true.toNat : Nat) : Int) = 1 from rfl] at s1
        have HE : Hid (elemsTo left (i + 1) = elemsTo left i ++ [i]) := Lib.hid (by rw [HSt.out]; rfl)
        clear HSt
        have hvs := v.size
        generalize hE0 : elemsTo left i = E0 at *
        clear hE0
        have hil : (ints E0).length = E0.length := ints_len E0
        have Hil := Lib.hid hil
        clear hil
        go_wp2_with (first | (at_builtin; refine wpList_push2 (B := W1.heap.size) (W := W1) (w := v.val) v.below hvs rfl _ _ rfl (ints E0) E0.length Hil.out ad cp (i : Int) rfl HO.out rfl (by omega) ?_; intro u2 g2 cp2 ho1 hk1; have HO2 := Lib.hid ho1; clear ho1 hk1) | fail)
        go_roundw
        case rel => exact ⟨i + 1, u2, some ⟨g2, 0, none⟩, cp2, by omega, by go_num, by rw [HE.out, List.length_append]; rfl, rfl, Lib.hid (by rw [HE.out, ints_snoc]; exact HO2.out)⟩
        case measure => simp [intOf]; omega
      · rw [g1] at s1 HSt
        rw [show ((false.toNat : Nat) : Int) = 0 from rfl] at s1
        have HE : Hid (elemsTo left (i + 1) = elemsTo left i) := Lib.hid (by rw [HSt.out]; rfl)
        clear HSt
        go_wp2
        go_roundw
        case rel => exact ⟨i + 1, v, ad, cp, by omega, by go_num, by rw [HE.out], rfl, Lib.hid (by rw [HE.out]; exact HO.out)⟩
        case measure => simp [intOf]; omega
    · have hie : i = n := by omega
      subst hie
      clear hlt hi
      have HE8 : Hid (∀ k, k < (elemsTo left i).length → (elemsTo left i).getD k 0 < i) := Lib.hid (fun k hk => by
        have hm : (elemsTo left i).getD k 0 ∈ elemsTo left i := by simp [hk]
        unfold elemsTo at hm
        exact List.mem_range.1 (List.mem_filter.1 hm).1)
      have hq8 := elemsTo_len left i
      have HIE : Hid (IntsAt v.val.heap.size v.val ad (ints (elemsTo left i))) := Lib.hid HO.out.reads
      generalize elemsTo left i = E at *
      have hbq := bit_le E.length (by omega)
      have bcq := bit_cast E.length
      have wq := IntWalk.i64_in (bit E.length : Int) (by omega)
      go_upto_region 9 with fail
      have HM0 : Hid (RowL (v.val.alloc (.cells #[.int .i64 E.length, .slice none 0 0] 24)) v.val.heap.size 24 [.int .i64 E.length, .slice none 0 0]) := Lib.hid (RowL.new _ _ _)
      obtain ⟨y, hy⟩ : ∃ y : Later v.val.heap.size v.val, y.val = (v.val.alloc (.cells #[.int .i64 E.length, .slice none 0 0] 24)) := ⟨(Later.self v.val).alloc _, rfl⟩
      have Hys : Hid (v.val.heap.size + 1 ≤ y.val.heap.size) := Lib.hid (by rw [hy]; simp)
      rw [← hy] at HM0 ⊢
      clear hy
      have HV2 : Hid (∀ x : Later v.val.heap.size v.val, ∃ w : Later B W, w.val = x.val) := Lib.hid (fun x => HV.out (v.up x))
      have HT2 : Hid (∀ x : Later v.val.heap.size v.val, ITab x.val g (bit i) (fun j => (ρ j : Int))) := Lib.hid (fun x => HTw.out (v.up x))
      have HX2 : Hid (∀ x : Later v.val.heap.size v.val, RowL x.val g8 24 [.int .i64 0, .slice none 0 0]) := Lib.hid (fun x => HX.out.keep (v.up x).below)
      have hg8v : g8 < v.val.heap.size := by have := v.size; omega
      have hBv : B ≤ g8 := huB
      clear HO HV HTw HX
      generalize v.val = V at *
      clear v
      have hlc : left ||| c < bit i := or_lt_bit hleft hc
      have r1 := HR8.out _ hlc
      have r2 := HR8.out c hc
      have t1 : ∀ x : Later V.heap.size V, x.val.cell? ⟨g, left ||| c, none⟩ = some (.int .i64 (ρ (left ||| c) : Int)) := fun x => (HT2.out x).cell hlc
      have t2 : ∀ x : Later V.heap.size V, x.val.cell? ⟨g, c, none⟩ = some (.int .i64 (ρ c : Int)) := fun x => (HT2.out x).cell hc
      have o1 := i64_or left c (by omega) (by omega)
      have w1 := IntWalk.i64_in ((ρ (left ||| c) : Int) - (ρ c : Int)) (by omega)
      have HMy : Hid (∀ x : Later y.val.heap.size y.val, RowL x.val V.heap.size 24 [.int .i64 E.length, .slice none 0 0]) := Lib.hid (fun x => HM0.out.keep x.below)
      generalize hlcx : left ||| c = lc at *
      clear hlcx
      obtain ⟨y2, hy2⟩ : ∃ y2 : Later y.val.heap.size y.val, y2.val = y.val := ⟨Later.self _, rfl⟩
      have t1y : ∀ x : Later y.val.heap.size y.val, x.val.cell? ⟨g, lc, none⟩ = some (.int .i64 (ρ lc : Int)) := fun x => t1 (y.up x)
      have t2y : ∀ x : Later y.val.heap.size y.val, x.val.cell? ⟨g, c, none⟩ = some (.int .i64 (ρ c : Int)) := fun x => t2 (y.up x)
      rw [← hy2]
      clear hy2 t1
      refine wp_region_later y2 (by kernel_rfl) (by kernel_rfl) (fun _ => ?_)
      repeat (first | go_big_quiet_step ((fail)) | (refine wpQuiet_step (fun K hK => ?_); go_simp; refine ⟨_, fun _ => rfl, ?_⟩; refine hK _ ?_; clear hK K))
      refine wpQuiet_nil ?_
      intro y2
      have hrk : ((ρ lc : Int) - (ρ c : Int)) = ((rk0 : Nat) : Int) := by have := HR0.out; omega
      rw [hrk]
      obtain ⟨x, hx⟩ : ∃ x : Later V.heap.size V, x.val = y2.val := ⟨y.up y2, rfl⟩
      have HMx : Hid (RowL x.val V.heap.size 24 [.int .i64 E.length, .slice none 0 0]) := Lib.hid (by rw [hx]; exact HMy.out y2)
      have Hxs : Hid (V.heap.size + 1 ≤ x.val.heap.size) := Lib.hid (by rw [hx]; have := y2.size; have := Hys.out; omega)
      rw [← hx]
      have HL0 : Hid (thoseTo (resB ρ E c rk0) 0 = []) := Lib.hid rfl
      have HLa : Hid (those E.length (resB ρ E c rk0) = thoseTo (resB ρ E c rk0) (bit E.length)) := Lib.hid rfl
      have hgmV : V.heap.size ≤ V.heap.size := Nat.le_refl _
      clear hx t1y t2y HMy HM0 Hys hrk r1 r2 t2 w1 o1 hlc
      go_wp2
      go_loopw [48] (fun sv wr => ∃ (s : Nat) (v : Later V.heap.size V) (ab : Option Addr) (cb : Nat), s ≤ bit E.length ∧ sv = .int .i64 s ∧ wr = v.val ∧ Hid (V.heap.size + 1 ≤ v.val.heap.size) ∧ Hid (RowL v.val V.heap.size 24 [.int .i64 E.length, .slice ab (thoseTo (resB ρ E c rk0) s).length cb]) ∧ Hid (Own (V.heap.size + 1) v.val ab cb (ints (thoseTo (resB ρ E c rk0) s)))) (fun sv _ => bit E.length - (intOf sv).toNat)
      case atStart => exact ⟨0, x, none, 0, by omega, by first | rfl | go_num, rfl, Hxs, HMx, Lib.hid (Own.nil _ _)⟩
      case round =>
        clear Hxs HMx x
        obtain ⟨s, v, ab, cb, hs, rfl, rfl, Hvs, HM, HO⟩ := hrel
        by_cases hlt : s < bit E.length
        · have hs8 : s < 256 := by omega
          have HSt := Lib.hid (thoseTo_step (resB ρ E c rk0) s)
          have hTl := thoseTo_len (resB ρ E c rk0) s
          have HRB : Hid (resB ρ E c rk0 s = true ↔ (sz s = rk0 ∧ ρ (img E s ||| c) = rk0 + ρ c)) := Lib.hid decide_eq_true_iff
          have HIs : Hid (∀ k, imgTo E s (k + 1) = if s.testBit k = true then imgTo E s k ||| bit (E.getD k 0) else imgTo E s k) := Lib.hid (fun k => rfl)
          have HIe : Hid (imgTo E s E.length = img E s) := Lib.hid rfl
          have HI0 : Hid (imgTo E s 0 = 0) := Lib.hid rfl
          have HIl : Hid (∀ k, k ≤ E.length → imgTo E s k < bit i) := Lib.hid (fun k hk => imgTo_lt s (fun t ht => HE8.out t (by omega)))
          go_wp2
          go_loopw [14, 53] (fun tv kv wr => ∃ k : Nat, k ≤ E.length ∧ tv = .int .i64 (imgTo E s k : Nat) ∧ kv = .int .i64 k ∧ wr = v.val) (fun _ kv _ => E.length - (intOf kv).toNat)
          case atStart => exact ⟨0, by omega, by rw [HI0.out]; rfl, rfl, rfl⟩
          case round =>
            obtain ⟨k, hk, rfl, rfl, rfl⟩ := hrel
            by_cases hlk : k < E.length
            · obtain ⟨be, oe, rfl, hbe, hce⟩ := HIE.out.at (k := k) (by rw [ints_len]; exact hlk)
              have c0 : v.val.cell? ⟨be, oe + k, none⟩ = some (.int .i64 ((E.getD k 0 : Nat) : Int)) := by rw [← ints_getD]; exact hce v k (by rw [ints_len]; exact hlk)
              have hx8 := HE8.out k hlk
              have ht := HIl.out k hk
              have hst := HIs.out k
              have s1 := shr_and s k hs8
              clear hce
              generalize E.getD k 0 = xk at *
              have bx := bit_cast xk
              have hbx := bit_lt xk (by omega)
              have w1 := IntWalk.i64_in (bit xk : Int) (by omega)
              have o1 := i64_or (imgTo E s k) (bit xk) (by omega) (by omega)
              have o0 := i64_or (imgTo E s k) 0 (by omega) (by omega)
              rcases btf (s.testBit k) with g1 | g1
              · rw [g1] at s1 hst
                rw [show ((true.toNat : Nat) : Int) = 1 from rfl] at s1
                have HN : Hid (imgTo E s (k + 1) = imgTo E s k ||| bit xk) := Lib.hid hst
                clear hst
                generalize hti : imgTo E s k = tk at o1 o0 ht HN ⊢
                clear hti
                generalize htn : tk ||| bit xk = tn at o1 HN ⊢
                clear htn
                go_wp2
                go_roundw
                case rel => exact ⟨k + 1, by omega, by rw [HN.out], by go_num, by first | rfl | trivial⟩
                case measure => simp [intOf]; omega
              · rw [g1] at s1 hst
                rw [show ((false.toNat : Nat) : Int) = 0 from rfl] at s1
                rw [Nat.or_zero, show ((0 : Nat) : Int) = 0 from rfl] at o0
                have HN : Hid (imgTo E s (k + 1) = imgTo E s k) := Lib.hid hst
                clear hst o1
                generalize hti : imgTo E s k = tk at o0 ht HN ⊢
                clear hti
                go_wp2
                go_roundw
                case rel => exact ⟨k + 1, by omega, by rw [HN.out], by go_num, by first | rfl | trivial⟩
                case measure => simp [intOf]; omega
            · have hke : k = E.length := by omega
              subst hke
              rw [HIe.out]
              have htl : img E s < bit i := by rw [← HIe.out]; exact HIl.out _ (Nat.le_refl _)
              have htc : img E s ||| c < bit i := or_lt_bit htl hc
              have KO : Hid (∀ w : Later v.val.heap.size v.val, Calls Try.prog 24 #[.int .i64 s] w.val (Ret v.val.heap.size v.val (.int .i64 (sz s)))) := Lib.hid (fun w => c_sameOnes w s hs8)
              have t1 : ∀ w : Later v.val.heap.size v.val, w.val.cell? ⟨g, img E s ||| c, none⟩ = some (.int .i64 (ρ (img E s ||| c) : Int)) := fun w => (HT2.out (v.up w)).cell htc
              have t2 : ∀ w : Later v.val.heap.size v.val, w.val.cell? ⟨g, c, none⟩ = some (.int .i64 (ρ c : Int)) := fun w => (HT2.out (v.up w)).cell hc
              have o1 := i64_or (img E s) c (by omega) (by omega)
              have r1 := HR8.out _ htc
              have r2 := HR8.out c hc
              have w1 := IntWalk.i64_in ((ρ (img E s ||| c) : Int) - (ρ c : Int)) (by omega)
              clear HIs HIe HI0 HIl hlk hk
              generalize img E s = im at *
              generalize himc : im ||| c = ic at *
              clear himc
              generalize ρ ic = pa at *
              generalize hszs : sz s = ss at *
              clear hszs
              obtain ⟨y, hy⟩ : ∃ y : Later v.val.heap.size v.val, y.val = v.val := ⟨Later.self _, rfl⟩
              go_upto_region 19 with fail
              rw [← hy]
              clear hy
              by_cases hb1 : ss = rk0
              case neg =>
                have d1 : ((ss : Int) == (rk0 : Int)) = false := by rw [beq_eq_false_iff_ne]; omega
                have d1' : (ss == rk0) = false := by rw [beq_eq_false_iff_ne]; exact hb1
                have HE : Hid (thoseTo (resB ρ E c rk0) (s + 1) = thoseTo (resB ρ E c rk0) s) := Lib.hid (by rw [HSt.out, if_neg (fun h => hb1 (HRB.out.1 h).1)])
                clear HSt HRB hb1
                refine wp_region_later y (by kernel_rfl) (by kernel_rfl) (fun _ => ?_)
                repeat (first | go_big_quiet_step (((go_at_call 24; exact (KO.out _)))) | (refine wpQuiet_step (fun K hK => ?_); go_simp; refine ⟨_, fun _ => rfl, ?_⟩; refine hK _ ?_; clear hK K))
                refine wpQuiet_nil ?_
                intro y
                obtain ⟨x, hx⟩ : ∃ x : Later V.heap.size V, x.val = y.val := ⟨v.up y, rfl⟩
                have HMx : Hid (RowL x.val V.heap.size 24 [.int .i64 E.length, .slice ab (thoseTo (resB ρ E c rk0) s).length cb]) := Lib.hid (by rw [hx]; exact HM.out.keep y.below)
                have HOx : Hid (Own (V.heap.size + 1) x.val ab cb (ints (thoseTo (resB ρ E c rk0) s))) := Lib.hid (by rw [hx]; exact HO.out.keep y.below)
                have Hxs : Hid (V.heap.size + 1 ≤ x.val.heap.size) := Lib.hid (by rw [hx]; have := y.size; have := Hvs.out; omega)
                rw [← hx]
                clear hx
                go_wp2
                go_roundw
                case rel => exact ⟨s + 1, x, ab, cb, by omega, by go_num, by first | rfl | trivial, Hxs, by rw [HE.out]; exact HMx, by rw [HE.out]; exact HOx⟩
                case measure => simp [intOf]; omega
              have d1 : ((ss : Int) == (rk0 : Int)) = true := by rw [beq_iff_eq]; omega
              have d1' : (ss == rk0) = true := by rw [beq_iff_eq]; exact hb1
              by_cases hb2 : pa = rk0 + ρ c
              case neg =>
                have d2 : ((pa : Int) - (ρ c : Int) == (rk0 : Int)) = false := by rw [beq_eq_false_iff_ne]; omega
                have HE : Hid (thoseTo (resB ρ E c rk0) (s + 1) = thoseTo (resB ρ E c rk0) s) := Lib.hid (by rw [HSt.out, if_neg (fun h => hb2 (HRB.out.1 h).2)])
                clear HSt HRB hb1 hb2
                refine wp_region_later y (by kernel_rfl) (by kernel_rfl) (fun _ => ?_)
                repeat (first | go_big_quiet_step (((go_at_call 24; exact (KO.out _)))) | (refine wpQuiet_step (fun K hK => ?_); go_simp; refine ⟨_, fun _ => rfl, ?_⟩; refine hK _ ?_; clear hK K))
                refine wpQuiet_nil ?_
                intro y
                obtain ⟨x, hx⟩ : ∃ x : Later V.heap.size V, x.val = y.val := ⟨v.up y, rfl⟩
                have HMx : Hid (RowL x.val V.heap.size 24 [.int .i64 E.length, .slice ab (thoseTo (resB ρ E c rk0) s).length cb]) := Lib.hid (by rw [hx]; exact HM.out.keep y.below)
                have HOx : Hid (Own (V.heap.size + 1) x.val ab cb (ints (thoseTo (resB ρ E c rk0) s))) := Lib.hid (by rw [hx]; exact HO.out.keep y.below)
                have Hxs : Hid (V.heap.size + 1 ≤ x.val.heap.size) := Lib.hid (by rw [hx]; have := y.size; have := Hvs.out; omega)
                rw [← hx]
                clear hx
                go_wp2
                go_roundw
                case rel => exact ⟨s + 1, x, ab, cb, by omega, by go_num, by first | rfl | trivial, Hxs, by rw [HE.out]; exact HMx, by rw [HE.out]; exact HOx⟩
                case measure => simp [intOf]; omega
              have d2 : ((pa : Int) - (ρ c : Int) == (rk0 : Int)) = true := by rw [beq_iff_eq]; omega
              have HE : Hid (thoseTo (resB ρ E c rk0) (s + 1) = thoseTo (resB ρ E c rk0) s ++ [s]) := Lib.hid (by rw [HSt.out, if_pos (HRB.out.2 ⟨hb1, hb2⟩)])
              clear HSt HRB hb1 hb2
              refine wp_region_later y (by kernel_rfl) (by kernel_rfl) (fun _ => ?_)
              repeat (first | go_big_quiet_step (((go_at_call 24; exact (KO.out _)))) | (refine wpQuiet_step (fun K hK => ?_); go_simp; refine ⟨_, fun _ => rfl, ?_⟩; refine hK _ ?_; clear hK K))
              refine wpQuiet_nil ?_
              intro y
              obtain ⟨x, hx⟩ : ∃ x : Later V.heap.size V, x.val = y.val := ⟨v.up y, rfl⟩
              have HMx : Hid (RowL x.val V.heap.size 24 [.int .i64 E.length, .slice ab (thoseTo (resB ρ E c rk0) s).length cb]) := Lib.hid (by rw [hx]; exact HM.out.keep y.below)
              have HOx : Hid (Own (V.heap.size + 1) x.val ab cb (ints (thoseTo (resB ρ E c rk0) s))) := Lib.hid (by rw [hx]; exact HO.out.keep y.below)
              have hxs : V.heap.size + 1 ≤ x.val.heap.size := by rw [hx]; have := y.size; have := Hvs.out; omega
              rw [← hx]
              clear hx t1 t2 d1 d1' d2 w1 o1 KO HM HO Hvs
              generalize hT1 : thoseTo (resB ρ E c rk0) s = T1 at *
              clear hT1
              have m1 : x.val.cell? ⟨V.heap.size, 1, none⟩ = some (.slice ab T1.length cb) := HMx.out.cell rfl
              have m2 : ∀ w : Later (V.heap.size + 1) x.val, w.val.cell? ⟨V.heap.size, 1, none⟩ = some (.slice ab T1.length cb) := fun w => (HMx.out.keep_at w.below (by omega)).cell rfl
              have m3 : ∀ w : Later (V.heap.size + 1) x.val, w.val.frozen? ⟨V.heap.size, 1, none⟩ = false := fun w => (HMx.out.keep_at w.below (by omega)).fz 1
              have HMw : Hid (∀ w : Later (V.heap.size + 1) x.val, RowL w.val V.heap.size 24 [.int .i64 E.length, .slice ab T1.length cb]) := Lib.hid (fun w => HMx.out.keep_at w.below (by omega))
              have Hil : Hid ((ints T1).length = T1.length) := Lib.hid (ints_len T1)
              go_wp2_with (first | (at_builtin; refine wpList_push2 (B := V.heap.size + 1) (W := x.val) (w := x.val) (Below.refl _ _) hxs rfl _ _ rfl (ints T1) T1.length Hil.out ab cb (s : Int) rfl HOx.out rfl (by omega) ?_; intro u2 g2 cb2 ho1 hk1; have HO2 := Lib.hid ho1; clear ho1 hk1) | fail)
              obtain ⟨x2, hx2⟩ : ∃ x2 : Later V.heap.size V, x2.val = u2.val.setCell ⟨V.heap.size, 1, none⟩ (.slice (some ⟨g2, 0, none⟩) (T1.length + 1) cb2) := ⟨(x.to u2.val (u2.below.mono (by omega))).set ⟨V.heap.size, 1, none⟩ hgmV _, rfl⟩
              have HM2 : Hid (RowL x2.val V.heap.size 24 [.int .i64 E.length, .slice (some ⟨g2, 0, none⟩) (T1.length + 1) cb2]) := Lib.hid (by rw [hx2]; exact (HMw.out u2).set 1 _)
              have HO3 : Hid (Own (V.heap.size + 1) x2.val (some ⟨g2, 0, none⟩) cb2 (ints T1 ++ [(s : Int)])) := Lib.hid (by rw [hx2]; exact HO2.out.set (by omega) _)
              have Hx2 : Hid (V.heap.size + 1 ≤ x2.val.heap.size) := Lib.hid (by rw [hx2]; have := u2.size; simp; omega)
              go_roundw
              case rel => exact ⟨s + 1, x2, some ⟨g2, 0, none⟩, cb2, by omega, by go_num, hx2.symm, Hx2, by rw [HE.out, List.length_append]; exact HM2, by rw [HE.out, ints_snoc]; exact HO3⟩
              case measure => simp [intOf]; omega
        · have hse : s = bit E.length := by omega
          subst hse
          have hHX := HX2.out v
          have m0 : v.val.cell? ⟨V.heap.size, 0, none⟩ = some (.int .i64 E.length) := HM.out.cell rfl
          have m1 : v.val.cell? ⟨V.heap.size, 1, none⟩ = some (.slice ab (thoseTo (resB ρ E c rk0) (bit E.length)).length cb) := HM.out.cell rfl
          have f0 : v.val.cell? ⟨g8, 0, none⟩ = some (.int .i64 0) := hHX.cell rfl
          have z0 : v.val.frozen? ⟨g8, 0, none⟩ = false := hHX.fz 0
          have f1 : ∀ x : Value, (v.val.setCell ⟨g8, 0, none⟩ x).cell? ⟨g8, 1, none⟩ = some (.slice none 0 0) := fun x => (hHX.set 0 x).cell rfl
          have z1 : ∀ x : Value, (v.val.setCell ⟨g8, 0, none⟩ x).frozen? ⟨g8, 1, none⟩ = false := fun x => (hHX.set 0 x).fz 1
          have HFIN : Hid (∀ tm : Array Value, tm.getD 8 undef = .pointer (some ⟨g8, 0, none⟩) → bodyPost Try.prog Try.f25 (RetP B W (MatO B (E.length : Nat) (ints (those E.length (resB ρ E c rk0))))) .ret { tmps := tm, defers := [] } ((v.val.setCell ⟨g8, 0, none⟩ (.int .i64 E.length)).setCell ⟨g8, 1, none⟩ (.slice ab (thoseTo (resB ρ E c rk0) (bit E.length)).length cb))) := Lib.hid (fun tm htm => by
            refine bodyPost_ret (results_cell_row rfl _ _ g8 24 #[.int .i64 E.length, .slice ab (thoseTo (resB ρ E c rk0) (bit E.length)).length cb] (0, 0) _ htm ((hHX.set 0 _).set 1 _) Try.underlying24 rfl (by kernel_rfl)) rfl ?_
            obtain ⟨q1, hq1⟩ := later_set (HV2.out v) (g := g8) (i := 0) hBv (.int .i64 E.length)
            obtain ⟨q2, hq2⟩ := later_set ⟨q1, hq1⟩ (g := g8) (i := 1) hBv (.slice ab (thoseTo (resB ρ E c rk0) (bit E.length)).length cb)
            refine RetP.of ⟨q2, hq2⟩ ?_
            rw [HLa.out]
            refine ⟨ab, cb, by rw [ints_len], ?_⟩
            exact ((HO.out.set (show g8 < V.heap.size + 1 by omega) _).set (show g8 < V.heap.size + 1 by omega) _).mono (by omega))
          clear HM HO HX2
          go_wp2
          exact HFIN.out _ rfl
end Go.Proofs.Ytjenaglgloaejaa
