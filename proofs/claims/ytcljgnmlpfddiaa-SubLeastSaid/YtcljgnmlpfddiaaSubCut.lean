/-
  sub.Cuts.
-/
import Derived.Test.YtcljgnmlpfddiaaTold
import Derived.Test.YtcljgnmlpfddiaaTabs
import Derived.IntWalk
namespace Go.Proofs.Ytcljgnmlpfddiaa
open Go.RowKit
set_option linter.unusedVariables false

def inHund (c : List Int) (k : Nat) : Prop := ∀ i, i < k → 0 ≤ c.getD i 0 ∧ c.getD i 0 ≤ 100
instance (c k) : Decidable (inHund c k) := by unfold inHund; infer_instance
theorem inHund_step {c : List Int} {k : Nat} (h : inHund c k) (h0 : 0 ≤ c.getD k 0) (h1 : c.getD k 0 ≤ 100) : inHund c (k+1) := by
  intro i hi
  by_cases e : i = k
  · subst e; exact ⟨h0, h1⟩
  · exact h i (by omega)
/-- what is wrong with the capacities of a graph -/
def cutErr (n : Int) (es : List (Int × Int)) (c : List Int) : Int := if isGraph n es then (if c.length = es.length then (if inHund c c.length then 0 else 1) else 3) else 1
def cutS (es : List (Int × Int)) (c : List Int) (s : Nat) : Nat → Int
  | 0 => 0
  | k + 1 => if s.testBit (es.getD k (0,0)).1.toNat = true ∧ s.testBit (es.getD k (0,0)).2.toNat = false then cutS es c s k + c.getD k 0 else cutS es c s k
theorem cutS_bound {es : List (Int × Int)} {c : List Int} (h : inHund c c.length) (s : Nat) {k : Nat} (hk : k ≤ c.length) : 0 ≤ cutS es c s k ∧ cutS es c s k ≤ 100 * k := by
  induction k with
  | zero => simp [cutS]
  | succ k ih =>
    have := ih (by omega)
    have := h k (by omega)
    unfold cutS
    split <;> omega
/-- the table behind s sets and k edges of the next one -/
def cutT (es : List (Int × Int)) (c : List Int) (s k : Nat) (j : Nat) : Int := if j < s then cutS es c j c.length else if j = s then cutS es c s k else 0
theorem cutT_at (es : List (Int × Int)) (c : List Int) (s k : Nat) : cutT es c s k s = cutS es c s k := by simp [cutT]
theorem cutT_start (es : List (Int × Int)) (c : List Int) (j : Nat) : cutT es c 0 0 j = 0 := by simp [cutT, cutS]
theorem cutT_next (es : List (Int × Int)) (c : List Int) (s j : Nat) : cutT es c s c.length j = cutT es c (s+1) 0 j := by
  unfold cutT
  by_cases h1 : j < s
  · rw [if_pos h1, if_pos (by omega)]
  · by_cases h2 : j = s
    · rw [if_neg h1, if_pos h2, if_pos (by omega), h2]
    · rw [if_neg h1, if_neg h2, if_neg (by omega)]
      split
      · rfl
      · rfl
def cutL (n : Int) (es : List (Int × Int)) (c : List Int) : List Int := tabL (bit n.toNat) (fun j => cutS es c j c.length)

set_option maxRecDepth 100000 in
set_option maxHeartbeats 4000000 in
theorem c_cuts {B : Nat} {W : World} (u : Later B W) (n : Int) (es : List (Int × Int)) (c : List Int) (a b : Option Addr) (cap cb : Nat) (h : EdgesAt B W a es) (hc : IntsAt B W b c) (hlen : es.length ≤ 4611686018427387904) (hlenc : c.length ≤ 4611686018427387904) :
    Calls Try.prog 62 #[.agg #[.int .i64 n, .slice a es.length cap], .slice b c.length cb] u.val (RetP B W (ListE (if cutErr n es c = 0 then cutL n es c else []) (cutErr n es c))) := by
  have T0 : Hid (Two (u.val.alloc (.cells #[.int .i64 n, .slice a es.length cap] 27)) u.val.heap.size 27 (.int .i64 n) (.slice a es.length cap)) := Lib.hid (Two.new _ _ _ _)
  have hr : u.val.heap.size < (u.val.alloc (.cells #[.int .i64 n, .slice a es.length cap] 27)).heap.size := by simp
  have HV : Hid (∀ v : Later (u.val.alloc (.cells #[.int .i64 n, .slice a es.length cap] 27)).heap.size (u.val.alloc (.cells #[.int .i64 n, .slice a es.length cap] 27)), ∃ w : Later B W, w.val = v.val) := Lib.hid (fun v => ⟨(u.alloc _).up v, rfl⟩)
  have HE : Hid (EdgesAt (u.val.alloc (.cells #[.int .i64 n, .slice a es.length cap] 27)).heap.size (u.val.alloc (.cells #[.int .i64 n, .slice a es.length cap] 27)) a es) := Lib.hid (h.to (u.alloc _))
  have HI : Hid (IntsAt (u.val.alloc (.cells #[.int .i64 n, .slice a es.length cap] 27)).heap.size (u.val.alloc (.cells #[.int .i64 n, .slice a es.length cap] 27)) b c) := Lib.hid (hc.to (u.alloc _))
  have HC : Hid (∀ x : Int, x = errno (decide (isGraph n es)) 1 → Calls Try.prog 72 #[.agg #[.int .i64 n, .slice a es.length cap]] (u.val.alloc (.cells #[.int .i64 n, .slice a es.length cap] 27)) (Ret (u.val.alloc (.cells #[.int .i64 n, .slice a es.length cap] 27)).heap.size (u.val.alloc (.cells #[.int .i64 n, .slice a es.length cap] 27)) (.int .i64 x))) := Lib.hid (fun x hx => by subst hx; exact c_checkGraph (Later.self _) n es a cap HE.out hlen)
  clear h hc
  by_cases hG : isGraph n es
  case neg =>
    have HC1 := Lib.hid (HC.out 1 (by simp [errno, hG]))
    have he : cutErr n es c = 1 := by unfold cutErr; rw [if_neg hG]
    rw [he, if_neg (by decide)]
    clear hG he HC
    go_enter Try.func62, Try.ntmps62
    go_wp2_with (first | (go_at_call 72; refine (HC1.out).mono ?_; rintro e _ ⟨rfl, v1, rfl⟩))
    go_ret2
    exact RetP.of (HV.out v1) ListE.no
  have HC1 := Lib.hid (HC.out 0 (by simp [errno, hG])); clear HC
  rcases ieq (c.length : Int) (es.length : Int) with ⟨g, d1, d2⟩ | ⟨g, d1, d2⟩
  case inr =>
    have he : cutErr n es c = 3 := by unfold cutErr; rw [if_pos hG, if_neg (by omega)]
    rw [he, if_neg (by decide)]
    clear hG he d1
    go_enter Try.func62, Try.ntmps62
    go_wp2_with (first | (go_at_call 72; refine (HC1.out).mono ?_; rintro e _ ⟨rfl, v1, rfl⟩; (have q0 := (T0.out.keep_at v1.below hr).c0; have q1 := (T0.out.keep_at v1.below hr).c1)))
    go_ret2
    exact RetP.of (HV.out v1) ListE.no
  have he : cutErr n es c = if inHund c c.length then 0 else 1 := by unfold cutErr; rw [if_pos hG, if_pos (by omega)]
  clear d1
  have g' : c.length = es.length := by omega
  have HLc := Lib.hid g'; clear g g'
  have hes : es.length ≤ 8 := hG.2.2.1
  have hcl : c.length ≤ 8 := by have := HLc.out; omega
  obtain ⟨m, rfl⟩ := Int.eq_ofNat_of_zero_le (show 0 ≤ n by have := hG.1; omega)
  have hm : m ≤ 7 := by have := hG.2.1; omega
  have hb := bit_le m (by omega)
  have hbc := bit_cast m
  have hmk := mk_tab (bit m) (by omega)
  have HG := Lib.hid hG; clear hG
  generalize hk : cutErr (m : Int) es c = k at *
  have HK : Hid (k = if inHund c c.length then 0 else 1) := Lib.hid he
  generalize hxs : (if k = 0 then cutL (m : Int) es c else []) = xs
  have HXS := Lib.hid hxs
  clear hk he hxs
  go_enter Try.func62, Try.ntmps62
  go_wp2_with (first | (go_at_call 72; refine (HC1.out).mono ?_; rintro e _ ⟨rfl, v1, rfl⟩; (have q0 := (T0.out.keep_at v1.below hr).c0; have q1 := (T0.out.keep_at v1.below hr).c1)))
  clear d2 q0 q1 HC1
  generalize hr2 : u.val.heap.size = r at *
  generalize u.val.alloc (.cells #[.int .i64 m, .slice a es.length cap] 27) = W1 at *
  clear hr2 u
  go_loopw [26] (fun i wr => ∃ (j : Nat) (v : Later W1.heap.size W1), j ≤ c.length ∧ i = .int .i64 j ∧ wr = v.val ∧ Hid (inHund c j)) (fun i _ => c.length - (intOf i).toNat)
  case atStart => exact ⟨0, v1, by omega, rfl, rfl, Lib.hid (fun i hi => absurd hi (by omega))⟩
  case round =>
    clear v1
    obtain ⟨j, v1, hj, rfl, rfl, hf⟩ := hrel
    by_cases hlt : j < c.length
    · obtain ⟨bb, off, rfl, hbB, hcell⟩ := HI.out.at hlt
      have c0 := hcell v1 j hlt
      have HS := Lib.hid (inHund_step hf.out)
      have HN : Hid (inHund c c.length → _) := Lib.hid (fun h => h j hlt)
      clear hcell
      generalize c.getD j 0 = x at *
      rcases ilt x 0 with ⟨g1, d1⟩ | ⟨g1, d1⟩ <;> rcases ilt 100 x with ⟨g2, d2⟩ | ⟨g2, d2⟩
      all_goals first | (exfalso; omega) | skip
      all_goals
        go_wp2
        first
        | (have hk1 : k = 1 := by rw [HK.out, if_neg (fun h => by have := HN.out h; omega)]
           subst hk1
           have hxs : xs = [] := by rw [← HXS.out]; rfl
           subst hxs
           go_ret2
           exact RetP.of (HV.out v1) ListE.no)
        | (go_roundw
           case rel => exact ⟨j+1, v1, by omega, by go_num, rfl, Lib.hid (HS.out (by omega) (by omega))⟩
           case measure => simp [intOf]; omega)
    · have hje : Hid (j = c.length) := Lib.hid (by omega)
      have HF : Hid (inHund c c.length) := Lib.hid (by rw [← hje.out]; exact hf.out)
      have hk0 : k = 0 := by rw [HK.out, if_pos HF.out]
      subst hk0
      have hxs : xs = cutL (m : Int) es c := by rw [← HXS.out]; rfl
      subst hxs
      have q0 := (T0.out.keep_at v1.below hr).c0
      clear HK HXS
      go_wp2
      clear q0 hlt hj hje hf
      have HT : Hid (ITab (v1.val.alloc (.cells (madeCells #[Value.int .i64 0] (bit m)) 3)) v1.val.heap.size (bit m) (cutT es c 0 0)) := Lib.hid ((ITab.made v1.val (bit m)).congr (fun j _ => (cutT_start es c j).symm))
      have hg1 : W1.heap.size ≤ v1.val.heap.size := v1.size
      have HZ : Hid (∃ w : Later W1.heap.size W1, w.val = v1.val.alloc (.cells (madeCells #[Value.int .i64 0] (bit m)) 3)) := Lib.hid ⟨v1.alloc _, rfl⟩
      generalize v1.val.alloc (.cells (madeCells #[Value.int .i64 0] (bit m)) 3) = W2 at *
      generalize v1.val.heap.size = g at *
      clear v1
      obtain ⟨v1, rfl⟩ := HZ.out
      clear HZ
      go_loopw [43] (fun i wr => ∃ (s : Nat) (v : Later W1.heap.size W1), s ≤ bit m ∧ i = .int .i64 s ∧ wr = v.val ∧ Hid (ITab v.val g (bit m) (cutT es c s 0))) (fun i _ => bit m - (intOf i).toNat)
      case atStart => exact ⟨0, v1, by omega, rfl, rfl, HT⟩
      case round =>
        clear v1 HT
        obtain ⟨s, v1, hs, rfl, rfl, HT⟩ := hrel
        by_cases hlt : s < bit m
        · have q1 := (T0.out.keep_at v1.below hr).c1
          go_wp2
          clear q1
          go_loopw [49] (fun i wr => ∃ (q : Nat) (v : Later W1.heap.size W1), q ≤ es.length ∧ i = .int .i64 q ∧ wr = v.val ∧ Hid (ITab v.val g (bit m) (cutT es c s q))) (fun i _ => es.length - (intOf i).toNat)
          case atStart => exact ⟨0, v1, by omega, rfl, rfl, HT⟩
          case round =>
            clear v1 HT
            obtain ⟨q, v1, hq, rfl, rfl, HT⟩ := hrel
            by_cases hlt2 : q < es.length
            · obtain ⟨be, offe, rfl, hbe, hce⟩ := HE.out.at hlt2
              have e0 := (hce v1 q hlt2).1
              have e1 := (hce v1 q hlt2).2
              have hqc : q < c.length := by have := HLc.out; omega
              obtain ⟨bb, off, rfl, hbB, hcell⟩ := HI.out.at hqc
              have HX := HG.out.2.2.2 q hlt2
              obtain ⟨x, hx⟩ := Int.eq_ofNat_of_zero_le HX.1
              obtain ⟨y, hy⟩ := Int.eq_ofNat_of_zero_le HX.2.1
              rw [hx, hy] at HX
              have hx7 : x < 7 := by omega
              have hy7 : y < 7 := by omega
              rw [hx] at e0
              rw [hy] at e1
              have HSt : Hid (cutS es c s (q+1) = if s.testBit x = true ∧ s.testBit y = false then cutS es c s q + c.getD q 0 else cutS es c s q) := Lib.hid (by show (if _ then _ else _) = _; rw [hx, hy]; rfl)
              have hbd := cutS_bound HF.out (es := es) s (k := q) (by omega)
              have hbd2 := HF.out q hqc
              have hbx := bit_cast x
              have hby := bit_cast y
              have i1 := i64_bit s x (by omega) (by omega)
              have i2 := i64_bit s y (by omega) (by omega)
              have HTn : Hid (∀ w : World, ITab w g (bit m) (cutT es c s q) → ∀ v, cutS es c s (q+1) = v → ITab (w.setCell ⟨g, s, none⟩ (.int .i64 v)) g (bit m) (cutT es c s (q+1))) := Lib.hid (fun w h v hv => h.set s v (fun j _ => by
                unfold cutT
                by_cases h1 : j < s
                · rw [if_pos h1, if_neg (by omega), if_pos h1]
                · by_cases h2 : j = s
                  · rw [if_neg h1, if_pos h2, if_pos h2, hv]
                  · rw [if_neg h1, if_neg h2, if_neg h2, if_neg h1, if_neg h2]))
              have HTs : Hid (cutS es c s (q+1) = cutS es c s q → ∀ w : World, ITab w g (bit m) (cutT es c s q) → ITab w g (bit m) (cutT es c s (q+1))) := Lib.hid (fun hh w h => h.congr (fun j _ => by
                unfold cutT; rw [hh]))
              clear HX hx hy hce
              rcases btf (s.testBit x) with g1 | g1 <;> rcases btf (s.testBit y) with g2 | g2
              all_goals
                rw [g1] at i1
                rw [g2] at i2
                rw [g1, g2] at HSt
                clear g1 g2
              case inl.inr =>
                have HW : Hid (∀ z : Later (v1.val.alloc (.cells #[.int .i64 x, .int .i64 y] 63)).heap.size (v1.val.alloc (.cells #[.int .i64 x, .int .i64 y] 63)), ITab z.val g (bit m) (cutT es c s q)) := Lib.hid (fun z => (HT.out.keep ((Below.refl _ _).alloc (Nat.le_refl _) _)).keep (z.below))
                have HL : Hid (∀ z : Later (v1.val.alloc (.cells #[.int .i64 x, .int .i64 y] 63)).heap.size (v1.val.alloc (.cells #[.int .i64 x, .int .i64 y] 63)), ∃ z' : Later W1.heap.size W1, z'.val = z.val) := Lib.hid (fun z => ⟨(v1.alloc _).up z, rfl⟩)
                have c0 : ∀ z : Later (v1.val.alloc (.cells #[.int .i64 x, .int .i64 y] 63)).heap.size (v1.val.alloc (.cells #[.int .i64 x, .int .i64 y] 63)), z.val.cell? ⟨bb, off + q, none⟩ = some (.int .i64 (c.getD q 0)) := fun z => by
                  obtain ⟨z', hz'⟩ := HL.out z
                  rw [← hz']; exact hcell z' q hqc
                have c1 : ∀ z : Later (v1.val.alloc (.cells #[.int .i64 x, .int .i64 y] 63)).heap.size (v1.val.alloc (.cells #[.int .i64 x, .int .i64 y] 63)), z.val.cell? ⟨g, s, none⟩ = some (.int .i64 (cutS es c s q)) := fun z => by
                  have := (HW.out z).cell hlt
                  rwa [cutT_at] at this
                have c2 : ∀ z : Later (v1.val.alloc (.cells #[.int .i64 x, .int .i64 y] 63)).heap.size (v1.val.alloc (.cells #[.int .i64 x, .int .i64 y] 63)), z.val.frozen? ⟨g, s, none⟩ = false := fun z => (HW.out z).frozen s
                have hw := IntWalk.i64_in (cutS es c s q + c.getD q 0) (by omega)
                clear hcell
                generalize cutS es c s q = p at *
                generalize c.getD q 0 = d at *
                go_wp2
                refine wp_region_later_tail (Later.self (v1.val.alloc (.cells #[.int .i64 x, .int .i64 y] 63))) 10 (by kernel_rfl) (by kernel_rfl) (fun v2 => ?_)
                simp only [List.take_succ_cons, List.take_zero, List.drop_succ_cons, List.drop_zero]
                repeat still_step
                refine wpStill_nil ?_
                go_wp2
                go_roundw
                case rel =>
                  obtain ⟨v3, hv3⟩ := HL.out v2
                  rw [← hv3]
                  refine ⟨q+1, v3.set ⟨g, s, none⟩ hg1 _, by omega, by go_num, rfl, Lib.hid (HTn.out _ ?_ _ (by rw [HSt.out]; rfl))⟩
                  rw [hv3]; exact HW.out v2
                case measure => simp [intOf]; omega
              all_goals
                have HW := Lib.hid (HTs.out (by rw [HSt.out]; rfl) v1.val HT.out)
                clear hcell HTn HTs HSt hbd
                go_wp2
                go_roundw
                case rel => exact ⟨q+1, v1.alloc (.cells #[.int .i64 x, .int .i64 y] 63), by omega, by go_num, rfl, Lib.hid (HW.out.keep ((Below.refl _ _).alloc (Nat.le_refl _) _))⟩
                case measure => simp [intOf]; omega
            · have hqe : Hid (q = c.length) := Lib.hid (by have := HLc.out; omega)
              go_wp2
              go_roundw
              case rel => exact ⟨s+1, v1, by omega, by go_num, rfl, Lib.hid (HT.out.congr (fun j _ => by rw [hqe.out]; exact cutT_next es c s j))⟩
              case measure => simp [intOf]; omega
        · have hse : Hid (s = bit m) := Lib.hid (by omega)
          go_wp2
          go_ret2
          refine RetP.of (HV.out v1) (ListE.mk ?_)
          have := HT.out.reads (cap := bit m)
          rw [tabL_congr (A' := fun j => cutS es c j c.length) (fun j hj => by unfold cutT; rw [hse.out, if_pos hj])] at this
          exact this

end Go.Proofs.Ytcljgnmlpfddiaa
