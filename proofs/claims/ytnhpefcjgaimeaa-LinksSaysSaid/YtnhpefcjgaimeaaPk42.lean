
/-
  A way as a set; edges among the first; where they lie. (for rotaref.eachWay)
  rotaref.eachWay: its walk.
-/
import Derived.Test.YtnhpefcjgaimeaaPk41
namespace Go.Proofs.Ytnhpefcjgaimeaa
open Go.RowKit
set_option linter.unusedVariables false

theorem prfT_left {O : List Nat} {v : Nat} : ∀ k, k ≤ O.length → prfT (O ++ [v]) k = prfT O k
  | 0, _ => rfl
  | k + 1, hk => by
    simp only [prfT]
    rw [prfT_left k (by omega)]
    congr 2
    rw [List.getD_eq_getElem?_getD, List.getD_eq_getElem?_getD, List.getElem?_append_left (by omega)]
theorem prfT_snoc (O : List Nat) (v : Nat) : prfT (O ++ [v]) (O ++ [v]).length = prfT O O.length ||| bit v := by
  rw [List.length_append]
  show prfT (O ++ [v]) O.length ||| bit ((O ++ [v]).getD O.length 0) = _
  rw [prfT_left _ (Nat.le_refl _)]
  congr 2
  rw [List.getD_eq_getElem?_getD, List.getElem?_append_right (Nat.le_refl _)]; simp
theorem prfT_testBit (O : List Nat) (v : Nat) : ∀ k, (prfT O k).testBit v = true ↔ ∃ j, j < k ∧ O.getD j 0 = v
  | 0 => by simp [prfT]
  | k + 1 => by
    simp only [prfT]
    rw [Nat.testBit_or, Bool.or_eq_true, prfT_testBit O v k, testBit_bit]
    constructor
    · rintro (⟨j, hj, e⟩ | e)
      · exact ⟨j, by omega, e⟩
      · exact ⟨k, by omega, by simpa using e⟩
    · rintro ⟨j, hj, e⟩
      by_cases c : j = k
      · subst c; exact .inr (by simpa using e)
      · exact .inl ⟨j, by omega, e⟩
theorem prfT_mem (O : List Nat) (v : Nat) : (prfT O O.length).testBit v = decide ((v : Int) ∈ ints O) := by
  rw [Bool.eq_iff_iff, prfT_testBit, decide_eq_true_eq]
  unfold ints
  rw [List.mem_map]
  constructor
  · rintro ⟨j, hj, e⟩
    refine ⟨v, ?_, rfl⟩
    rw [← e, List.getD_eq_getElem?_getD, List.getElem?_eq_getElem hj]
    exact List.getElem_mem hj
  · rintro ⟨x, hx, e⟩
    have hxv : x = v := by have : (x : Int) = (v : Int) := e; omega
    subst hxv
    obtain ⟨j, hj, e⟩ := List.getElem_of_mem hx
    exact ⟨j, hj, by rw [List.getD_eq_getElem?_getD, List.getElem?_eq_getElem hj]; simpa using e⟩
/-- an edge among the first k -/
def edT (es : List (Int × Int)) (x y k : Nat) : Bool := (List.range k).any (fun k => decide (vA es k = x ∧ vB es k = y))
theorem edT_step (es : List (Int × Int)) (x y k : Nat) : edT es x y (k + 1) = (edT es x y k || decide (vA es k = x ∧ vB es k = y)) := edB_to es x y k
theorem EdgesAt.kept {bo : Nat} {W w : World} {a : Option Addr} {es : List (Int × Int)} (h : EdgesAt bo W a es) (hb : bo ≤ W.heap.size) (hk : Kept bo none W w) : EdgesAt bo w a es := fun hne => by
  obtain ⟨b, off, e, hlt, hc⟩ := h hne
  refine ⟨b, off, e, hlt, fun k hk' => ?_⟩
  rw [hk.cell (a := ⟨b, off + k * 2, none⟩) (by show b < _; omega) (by show b ≠ bo; omega) (by simp), hk.cell (a := ⟨b, off + k * 2 + 1, none⟩) (by show b < _; omega) (by show b ≠ bo; omega) (by simp)]
  exact hc k hk'

end Go.Proofs.Ytnhpefcjgaimeaa

namespace Go.Proofs.Ytnhpefcjgaimeaa
open Go.RowKit
set_option linter.unusedVariables false

/-- what is asked of the function that is handed in -/
def DoP (bo : Nat) (W : World) (n gone : Nat) (nx : Nat → Option Rws) (pre : Rws) (d1 d2 d3 d4 : Value) : Prop := ∀ (w : World) (ad : Option Addr) (len cp : Nat) (way : List Nat) (b1 off1 cpw : Nat), Kept bo none W w → OutR bo w ad len cp pre → RowV w bo none way (some ⟨b1, off1, none⟩) cpw → 0 < way.length → way.length ≤ 8 → (∀ j, j < way.length → way.getD j 0 < n) →
  Calls Try.prog 21 #[.slice (some ⟨b1, off1, none⟩) way.length cpw, d1, d2, d3, d4] w (RPost bo w ((nx (gone ||| prfT way way.length)).map (fun r => way :: r)) pre)
def EachP (bo : Nat) (W : World) (n tw gone : Nat) (es : List (Int × Int)) (a : Option Addr) (cap : Nat) (nx : Nat → Option Rws) (pre : Rws) (d1 d2 d3 d4 : Value) (fuel : Nat) : Prop := ∀ (w : World) (ad : Option Addr) (len cp : Nat) (way : List Nat) (b1 off1 cpw : Nat), Kept bo none W w → OutR bo w ad len cp pre → RowV w bo none way (some ⟨b1, off1, none⟩) cpw → 0 < way.length → way.length + fuel ≤ 9 → (∀ j, j < way.length → way.getD j 0 < n) → n + 1 ≤ fuel + sz (gone ||| prfT way way.length) →
  Calls Try.prog 20 #[.agg #[.int .i64 n, .slice a es.length cap], .slice (some ⟨b1, off1, none⟩) way.length cpw, .int .i64 gone, .int .i64 tw, .func (.func 21) #[] #[d1, d2, d3, d4]] w (RPost bo w (onF n (edB es) tw nx fuel way (gone ||| prfT way way.length)) pre)
/-- behind the try of an end -/
def EachCut (bo : Nat) (w1 : World) (res : Option Rws) (els : Option Rws) (pre : Rws) (x : Value) (w' : World) : Prop :=
  ∃ bb, x = .bool bb ∧ Kept bo none w1 w' ∧ ((bb = true ∧ ∃ r ad cp, res = some r ∧ OutR bo w' ad (pre ++ r).length cp (pre ++ r)) ∨ (bb = false ∧ res = els ∧ ∃ ad len cp, OutR bo w' ad len cp pre))

set_option maxRecDepth 100000 in
set_option maxHeartbeats 16000000 in
theorem c_eachW (bo : Nat) (W : World) (n tw gone : Nat) (es : List (Int × Int)) (a : Option Addr) (cap : Nat) (nx : Nat → Option Rws) (pre : Rws) (d1 d2 d3 d4 : Value)
    (hG : isGraph (n : Int) es) (hE : EdgesAt bo W a es) (htw : tw < bit n) (hg : gone < bit n) (hbo : bo < W.heap.size) (hDO : DoP bo W n gone nx pre d1 d2 d3 d4) : ∀ fuel, EachP bo W n tw gone es a cap nx pre d1 d2 d3 d4 fuel := by
  have hn7 : n ≤ 7 := by have := hG.2.1; omega
  have he8 : es.length ≤ 8 := hG.2.2.1
  have hbn := bit_le n (by omega)
  have HDO := Lib.hid hDO
  have HE := Lib.hid hE
  have HGr := Lib.hid hG
  have hp1 : ∀ (args : Array Value) (w : World), (callFunc 21 args).run Try.prog w = .ok (.enter 21 args) w := fun _ _ => by kernel_rfl
  clear hDO hE
  intro fuel
  induction fuel with
  | zero =>
    intro w ad len cp way b1 off1 cpw _ _ _ _ _ hwn hf
    have h1 : prfT way way.length < bit n := prfT_lt (q := way.length) hwn _ (Nat.le_refl _)
    have := sz_le_m (n := n) (by omega) (or_lt_bit hg h1)
    omega
  | succ fuel ih =>
  intro w ad len cp way b1 off1 cpw hk hO hR h0 hfu hwn hsz
  have IH := Lib.hid ih
  have hus : gone ||| prfT way way.length < bit n := or_lt_bit hg (prfT_lt (q := way.length) hwn _ (Nat.le_refl _))
  obtain ⟨q, hq⟩ : ∃ q, way.length = q + 1 := ⟨way.length - 1, by omega⟩
  have hlast : lastN way < n := by unfold lastN; exact hwn _ (by omega)
  have HT : Hid (Two (w.alloc (.cells #[.int .i64 n, .slice a es.length cap] 24)) w.heap.size 24 (.int .i64 n) (.slice a es.length cap)) := Lib.hid (Two.new _ _ _ _)
  have hal : Below w.heap.size w (w.alloc (.cells #[.int .i64 n, .slice a es.length cap] 24)) := (Below.refl _ _).alloc (Nat.le_refl _) _
  have HKw : Hid (Kept bo none w (w.alloc (.cells #[.int .i64 n, .slice a es.length cap] 24))) := Lib.hid (Kept.of hal)
  have HK1 : Hid (Kept bo none W (w.alloc (.cells #[.int .i64 n, .slice a es.length cap] 24))) := Lib.hid (hk.trans (NewB.refl _ _) (Kept.of hal))
  have HO1 : Hid (OutR bo (w.alloc (.cells #[.int .i64 n, .slice a es.length cap] 24)) ad len cp pre) := Lib.hid (hO.keep hal)
  have HR1 : Hid (RowV (w.alloc (.cells #[.int .i64 n, .slice a es.length cap] 24)) bo none way (some ⟨b1, off1, none⟩) cpw) := Lib.hid (hR.kept (Kept.of hal) (NewB.refl _ _))
  have hg0 : w.heap.size < (w.alloc (.cells #[.int .i64 n, .slice a es.length cap] 24)).heap.size := by simp
  have hgo : w.heap.size ≠ bo := by have := hk.size; omega
  have HFin : Hid (∀ (e : Ending) (w' : World) (res : Option Rws), RPost bo (w.alloc (.cells #[.int .i64 n, .slice a es.length cap] 24)) res pre e w' → RPost bo w res pre e w') := Lib.hid (fun e w' res h => h.from HKw.out)
  have HHit := Lib.hid (fun r => onF_hit (n := n) (ed := edB es) (tw := tw) (nx := nx) (f := fuel) (way := way) (used := gone ||| prfT way way.length) (r := r))
  have HElse := Lib.hid (onF_else (n := n) (ed := edB es) (tw := tw) (nx := nx) (f := fuel) (way := way) (used := gone ||| prfT way way.length))
  have HWN := Lib.hid hwn
  have HUs : Hid (∀ v, (gone ||| prfT way way.length).testBit v = (gone.testBit v || decide ((v : Int) ∈ ints way))) := Lib.hid (fun v => by rw [Nat.testBit_or, prfT_mem])
  have HSz := Lib.hid hsz
  have cl : (w.alloc (.cells #[.int .i64 n, .slice a es.length cap] 24)).cell? ⟨b1, off1 + q, none⟩ = some (.int .i64 (lastN way : Nat)) := by
    obtain ⟨g, off, e, hlt, hc⟩ := HR1.out.ints (by intro e; have := congrArg List.length e; rw [ints_len, hq] at this; simp at this)
    simp only [Option.some.injEq, Addr.mk.injEq] at e
    obtain ⟨rfl, rfl, _⟩ := e
    have := hc q (by rw [ints_len]; omega)
    rw [this, ints_getD]
    unfold lastN
    rw [hq]
    rfl
  have HKD : Hid (∀ y : Later (w.alloc (.cells #[.int .i64 n, .slice a es.length cap] 24)).heap.size (w.alloc (.cells #[.int .i64 n, .slice a es.length cap] 24)), Calls Try.prog 21 #[.slice (some ⟨b1, off1, none⟩) (q + 1) cpw, d1, d2, d3, d4] y.val (RPost bo y.val ((nx (gone ||| prfT way way.length)).map (fun r => way :: r)) pre)) := Lib.hid (fun y => by
    have := HDO.out y.val ad len cp way b1 off1 cpw (HK1.out.trans (NewB.refl _ _) (Kept.of y.below)) (HO1.out.keep y.below) (HR1.out.kept (Kept.of y.below) (NewB.refl _ _)) h0 (by omega) hwn
    rw [hq] at this ⊢
    exact this)
  have hl8 : lastN way < 8 := by omega
  clear ih hwn hk hO hR hsz hal
  generalize hus2 : gone ||| prfT way way.length = us at *
  rw [hq]
  go_enter Try.func20, Try.ntmps20
  go_upto_region 2 with fail
  clear cl
  obtain ⟨z, hz⟩ : ∃ z : Later (w.alloc (.cells #[.int .i64 n, .slice a es.length cap] 24)).heap.size (w.alloc (.cells #[.int .i64 n, .slice a es.length cap] 24)), z.val = (w.alloc (.cells #[.int .i64 n, .slice a es.length cap] 24)) := ⟨Later.self _, rfl⟩
  rw [← hz] at HT HKw HK1 HO1 HR1 hg0 ⊢
  generalize hgw : w.heap.size = g0 at *
  have HKD0 : Hid (∀ y : Later z.val.heap.size z.val, Calls Try.prog 21 #[.slice (some ⟨b1, off1, none⟩) (q + 1) cpw, d1, d2, d3, d4] y.val (RPost bo y.val ((nx us).map (fun r => way :: r)) pre)) := Lib.hid (fun y => HKD.out (z.up y))
  clear HKD
  generalize z.val = V at *
  clear hz z
  generalize hla : lastN way = la at *
  have KI : Hid (Calls Try.prog 19 #[.int .i64 tw, .int .i64 la] V (Ret V.heap.size V (.bool (tw.testBit la)))) := Lib.hid (c_in (Later.self V) tw la (by omega) (by omega))
  go_cut [28] from 21 to 28 (fun x_ w_ => EachCut bo V (onF n (edB es) tw nx (fuel + 1) way us) (fstTo (onStep n (edB es) tw nx fuel way us) n) pre x_ w_)
  case first => as_aux_lemma =>
    rcases btf (tw.testBit la) with g1 | g1
    · rw [g1] at KI
      have KD : Hid (∀ y : Later V.heap.size V, Calls Try.prog 21 #[.slice (some ⟨b1, off1, none⟩) (q + 1) cpw, d1, d2, d3, d4] y.val (fun e w' => ∃ bb, e = .returned (.bool bb) ∧ EachCut bo V (onF n (edB es) tw nx (fuel + 1) way us) (fstTo (onStep n (edB es) tw nx fuel way us) n) pre (.bool bb) w')) := Lib.hid (fun y => (HKD0.out y).mono (by
        rintro e w' ⟨hk, h⟩
        have hkv := (Kept.of y.below).trans (NewB.refl _ _) hk
        rcases h with ⟨r, ad', cp', h1, rfl, h3⟩ | ⟨h1, rfl, h⟩
        · refine ⟨true, rfl, true, rfl, hkv, .inl ⟨rfl, r, ad', cp', ?_, h3⟩⟩
          cases hnr : nx us with
          | none => rw [hnr] at h1; cases h1
          | some r0 => rw [hnr] at h1; cases h1; exact HHit.out r0 g1 hnr
        · refine ⟨false, rfl, false, rfl, hkv, .inr ⟨rfl, HElse.out (.inr ?_), h⟩⟩
          cases hnr : nx us with
          | none => rfl
          | some r0 => rw [hnr] at h1; cases h1))
      go_wp2_with (first | (go_at_call 19; (with_reducible refine (KI.out).mono ?_); rintro e _ ⟨rfl, y, rfl⟩) | (go_at_call 21; (with_reducible refine (KD.out y).mono ?_); rintro e w4 ⟨bb, rfl, hC⟩) | fail)
      go_meet
      case rel => exact hC
    · rw [g1] at KI
      go_wp2_with (first | (go_at_call 19; (with_reducible refine (KI.out).mono ?_); rintro e _ ⟨rfl, y, rfl⟩) | fail)
      go_meet
      case rel => exact ⟨false, rfl, Kept.of y.below, .inr ⟨rfl, HElse.out (.inl g1), ad, len, cp, HO1.out.keep y.below⟩⟩
  case rest => as_aux_lemma =>
    obtain ⟨bb, rfl, hkc, h⟩ := hcut
    rcases h with ⟨rfl, r, ad2, cp2, hr, hO2⟩ | ⟨rfl, hels, ad2, len2, cp2, hO2⟩
    · go_wp2
      go_ret
      exact ⟨HKw.out.trans (NewB.refl _ _) hkc, .inl ⟨r, ad2, cp2, hr, rfl, hO2⟩⟩
    · have HKc : Hid (Kept bo none V wc) := Lib.hid hkc
      have HO2 := Lib.hid hO2
      have HRes := Lib.hid hels
      have HStep : Hid (∀ w, onStep n (edB es) tw nx fuel way us w = if us.testBit w = true ∨ edB es la w = false then none else onF n (edB es) tw nx fuel (way ++ [w]) (us ||| bit w)) := Lib.hid (fun w => by rw [← hla]; rfl)
      have QG : Hid (∀ y, Kept bo none V y → y.cell? ⟨g0, 0, none⟩ = some (.int .i64 n) ∧ y.cell? ⟨g0, 1, none⟩ = some (.slice a es.length cap)) := Lib.hid (fun y h => ⟨by rw [h.cell hg0 hgo (by simp)]; exact HT.out.c0, by rw [h.cell hg0 hgo (by simp)]; exact HT.out.c1⟩)
      have HEy : Hid (∀ y, Kept bo none V y → EdgesAt y.heap.size y a es) := Lib.hid (fun y h => by
        have hk := HK1.out.trans (NewB.refl _ _) h
        exact (EdgesAt.kept HE.out (by omega) hk).mono (by have := hk.size; omega))
      generalize hst : onStep n (edB es) tw nx fuel way us = stp at *
      clear hst hkc hO2 hels HHit HElse HKD0 KI
      go_wp2
      go_loopw [12] (fun i wr => ∃ (v : Nat) (y : World) (ad2 : Option Addr) (len2 cp2 : Nat), v ≤ n ∧ i = .int .i64 v ∧ wr = y ∧ Hid (Kept bo none V y) ∧ Hid (OutR bo y ad2 len2 cp2 pre) ∧ Hid (∀ j, j < v → stp j = none)) (fun i _ => n - (intOf i).toNat)
      case atStart => exact ⟨0, wc, ad2, len2, cp2, by omega, by simp, rfl, HKc, HO2, Lib.hid (fun j hj => by omega)⟩
      case round =>
        clear HKc HO2 wc ad2 len2 cp2
        obtain ⟨v, y, ad2, len2, cp2, hv, rfl, rfl, HKy, HOy, HNo⟩ := hrel
        obtain ⟨q0y, q1y⟩ := QG.out wr HKy.out
        by_cases hvn : v < n
        · have HNx : Hid (stp v = none → ∀ j, j < v + 1 → stp j = none) := Lib.hid (fun h j hj => by
            by_cases c : j = v
            · subst c; exact h
            · exact HNo.out j (by omega))
          have HSv := Lib.hid (HStep.out v)
          have HYes : Hid (∀ r, stp v = some r → onF n (edB es) tw nx (fuel + 1) way us = some r) := Lib.hid (fun r h => by rw [HRes.out]; exact fstTo_some hvn HNo.out h)
          have HEd := Lib.hid (HEy.out wr HKy.out)
          go_wp2
          go_loopw [13, 14] (fun l i w2 => ∃ (k : Nat), k ≤ es.length ∧ l = .bool (edT es la v k) ∧ i = .int .i64 k ∧ w2 = wr) (fun _ i _ => es.length - (intOf i).toNat)
          case atStart => exact ⟨0, by omega, rfl, by simp, rfl⟩
          case round =>
            obtain ⟨k, hk, rfl, rfl, rfl⟩ := hrel
            by_cases hlt : k < es.length
            · obtain ⟨be, offe, rfl, hbe, hce⟩ := HEd.out.at hlt
              have HX := HGr.out.2.2.2 k hlt
              obtain ⟨x1, hx1⟩ := Int.eq_ofNat_of_zero_le HX.1
              obtain ⟨x2, hx2⟩ := Int.eq_ofNat_of_zero_le HX.2.1
              have hva : vA es k = x1 := by unfold vA; rw [hx1]; rfl
              have hvb : vB es k = x2 := by unfold vB; rw [hx2]; rfl
              have e0 := (hce (Later.self _) k hlt).1
              have e1 := (hce (Later.self _) k hlt).2
              rw [hx1] at e0
              rw [hx2] at e1
              dsimp only [Later.self] at e0 e1
              have HS := Lib.hid (edT_step es la v k)
              rw [hva, hvb] at HS
              clear HX hx1 hx2 hce hva hvb
              generalize edT es la v k = ld at *
              cases ld with
              | true =>
                have HN : Hid (edT es la v (k + 1) = true) := Lib.hid (by rw [HS.out]; rfl)
                clear HS
                go_wp2
                go_roundw
                case rel => exact ⟨k+1, by omega, by rw [HN.out], by go_num, by trivial⟩
                case measure => simp [intOf]; omega
              | false =>
                rcases ieq (x1 : Int) (la : Int) with ⟨g1, p1, _⟩ | ⟨g1, p1, _⟩
                · have f1 : (x1 == la) = true := by rw [beq_iff_eq]; omega
                  rcases ieq (x2 : Int) (v : Int) with ⟨g2, p2, _⟩ | ⟨g2, p2, _⟩
                  · have f2 : (x2 == v) = true := by rw [beq_iff_eq]; omega
                    have HN : Hid (edT es la v (k + 1) = true) := Lib.hid (by rw [HS.out, decide_eq_true (p := x1 = la ∧ x2 = v) (by omega)]; rfl)
                    clear HS g1 g2
                    go_wp2
                    go_roundw
                    case rel => exact ⟨k+1, by omega, by rw [HN.out], by go_num, by trivial⟩
                    case measure => simp [intOf]; omega
                  · have f2 : (x2 == v) = false := by rw [beq_eq_false_iff_ne]; omega
                    have HN : Hid (edT es la v (k + 1) = false) := Lib.hid (by rw [HS.out, decide_eq_false (p := x1 = la ∧ x2 = v) (by omega)]; rfl)
                    clear HS g1 g2
                    go_wp2
                    go_roundw
                    case rel => exact ⟨k+1, by omega, by rw [HN.out], by go_num, by trivial⟩
                    case measure => simp [intOf]; omega
                · have f1 : (x1 == la) = false := by rw [beq_eq_false_iff_ne]; omega
                  have HN : Hid (edT es la v (k + 1) = false) := Lib.hid (by rw [HS.out, decide_eq_false (p := x1 = la ∧ x2 = v) (by omega)]; rfl)
                  clear HS g1
                  go_wp2
                  go_roundw
                  case rel => exact ⟨k+1, by omega, by rw [HN.out], by go_num, by trivial⟩
                  case measure => simp [intOf]; omega
            · have hke : k = es.length := by omega
              subst hke
              have hed : Hid (edB es la v = edT es la v es.length) := Lib.hid rfl
              generalize edT es la v es.length = ld at *
              have KIn : Hid (Calls Try.prog 19 #[.int .i64 gone, .int .i64 v] wr (Ret wr.heap.size wr (.bool (gone.testBit v)))) := Lib.hid (c_in (Later.self wr) gone v (by omega) (by omega))
              have KCo : Hid (∀ y : Later wr.heap.size wr, Calls Try.prog 32 #[.slice (some ⟨b1, off1, none⟩) (q + 1) cpw, .int .i64 v] y.val (Ret wr.heap.size wr (.bool (decide ((v : Int) ∈ ints way))))) := Lib.hid (fun y => by
                have := c_contains y (ints way) (v : Int) (some ⟨b1, off1, none⟩) cpw (((HR1.out.kept HKy.out (NewB.refl _ _))).ints) (by rw [ints_len]; omega)
                rw [ints_len, hq] at this
                exact this)
              have HSu := Lib.hid (HUs.out v)
              cases ld with
              | false =>
                have HN := Lib.hid (HNx.out (by rw [HSv.out, if_pos (.inr hed.out)]))
                clear KIn KCo HSu HNx HSv HYes
                go_wp2
                go_roundw
                case rel => exact ⟨v+1, wr, ad2, len2, cp2, by omega, by go_num, rfl, HKy, HOy, HN⟩
                case measure => simp [intOf]; omega
              | true =>
                rcases btf (gone.testBit v) with g1 | g1
                · rw [g1] at KIn HSu
                  have HN := Lib.hid (HNx.out (by rw [HSv.out, if_pos (.inl (by rw [HSu.out]; rfl))]))
                  clear KCo HSu HNx HSv HYes
                  go_wp2_with (first | (go_at_call 19; (with_reducible refine (KIn.out).mono ?_); rintro e _ ⟨rfl, y, rfl⟩) | fail)
                  go_roundw
                  case rel => exact ⟨v+1, y.val, ad2, len2, cp2, by omega, by go_num, rfl, Lib.hid (HKy.out.trans (NewB.refl _ _) (Kept.of y.below)), Lib.hid (HOy.out.keep y.below), HN⟩
                  case measure => simp [intOf]; omega
                · rw [g1] at KIn HSu
                  have hdb := btf (decide ((v : Int) ∈ ints way))
                  generalize decide ((v : Int) ∈ ints way) = db at *
                  rcases hdb with rfl | rfl
                  · have HN := Lib.hid (HNx.out (by rw [HSv.out, if_pos (.inl (by rw [HSu.out]; rfl))]))
                    clear HSu HNx HSv HYes
                    go_wp2_with (first | (go_at_call 19; (with_reducible refine (KIn.out).mono ?_); rintro e _ ⟨rfl, y0, rfl⟩) | (go_at_call 32; (with_reducible refine (KCo.out y0).mono ?_); rintro e _ ⟨rfl, y, rfl⟩) | fail)
                    go_roundw
                    case rel => exact ⟨v+1, y.val, ad2, len2, cp2, by omega, by go_num, rfl, Lib.hid (HKy.out.trans (NewB.refl _ _) (Kept.of y.below)), Lib.hid (HOy.out.keep y.below), HN⟩
                    case measure => simp [intOf]; omega
                  · have hfree : us.testBit v = false := by rw [HSu.out]; rfl
                    have HSw : Hid (stp v = onF n (edB es) tw nx fuel (way ++ [v]) (us ||| bit v)) := Lib.hid (by
                      rw [HSv.out, if_neg (by
                        rintro (c | c)
                        · rw [hfree] at c; cases c
                        · rw [hed.out] at c; cases c)])
                    have hsz2 : n + 1 ≤ fuel + sz (us ||| bit v) := by
                      rw [sz_add (by omega) hfree]
                      have := HSz.out
                      omega
                    generalize hrr : onF n (edB es) tw nx fuel (way ++ [v]) (us ||| bit v) = rr at *
                    have HYes2 : Hid (∀ r, rr = some r → onF n (edB es) tw nx (fuel + 1) way us = some r) := Lib.hid (fun r h => HYes.out r (HSw.out.trans h))
                    have HNx2 : Hid (rr = none → ∀ j, j < v + 1 → stp j = none) := Lib.hid (fun h => HNx.out (HSw.out.trans h))
                    have KI : Hid (∀ y, Below wr.heap.size wr y → ∀ g3 cp3, Own wr.heap.size y (some ⟨g3, 0, none⟩) cp3 (ints way ++ [(v : Int)]) → Calls Try.prog 20 #[.agg #[.int .i64 n, .slice a es.length cap], .slice (some ⟨g3, 0, none⟩) ((ints way).length + 1) cp3, .int .i64 gone, .int .i64 tw, .func (.func 21) #[] #[d1, d2, d3, d4]] y (fun e w' => ∃ bb, e = .returned (.bool bb) ∧ EachCut bo wr rr none pre (.bool bb) w')) := Lib.hid (fun y hy g3 cp3 hown => by
                      have hown2 : Own wr.heap.size y (some ⟨g3, 0, none⟩) cp3 (ints (way ++ [v])) := by rw [ints_snoc]; exact hown
                      have hbw : bo < wr.heap.size := by have := HK1.out.size; have := HKy.out.size; omega
                      have hus' : gone ||| prfT (way ++ [v]) (way ++ [v]).length = us ||| bit v := by rw [prfT_snoc, ← Nat.or_assoc, hus2]
                      have := IH.out y ad2 len2 cp2 (way ++ [v]) g3 0 cp3 ((HK1.out.trans (NewB.refl _ _) HKy.out).trans (NewB.refl _ _) (Kept.of hy)) (HOy.out.keep hy) (row_of_new hbw hown2) (by simp) (by rw [List.length_append]; simp; omega) (fun j hj => by
                        by_cases c : j < way.length
                        · rw [List.getD_eq_getElem?_getD, List.getElem?_append_left c, ← List.getD_eq_getElem?_getD]; exact HWN.out j c
                        · rw [List.length_append] at hj
                          simp at hj
                          have : j = way.length := by omega
                          rw [List.getD_eq_getElem?_getD, List.getElem?_append_right (by omega), this]; simp; omega) (by rw [hus']; exact hsz2)
                      rw [hus', hrr, List.length_append, show way.length + [v].length = (ints way).length + 1 by rw [ints_len]; rfl] at this
                      refine this.mono ?_
                      rintro e w' ⟨hk, h⟩
                      have hkw := (Kept.of hy).trans (NewB.refl _ _) hk
                      rcases h with ⟨r, ad', cp', h1, rfl, h3⟩ | ⟨h1, rfl, h⟩
                      · exact ⟨true, rfl, true, rfl, hkw, .inl ⟨rfl, r, ad', cp', h1, h3⟩⟩
                      · exact ⟨false, rfl, false, rfl, hkw, .inr ⟨rfl, h1, h⟩⟩)
                    clear HSu HNx HSv HYes HSw hed hrr
                    go_upto_region 13 with (first | (go_at_call 19; (with_reducible refine (KIn.out).mono ?_); rintro e _ ⟨rfl, y0, rfl⟩) | (go_at_call 32; (with_reducible refine (KCo.out y0).mono ?_); rintro e _ ⟨rfl, y, rfl⟩))
                    have HKz : Hid (Kept bo none V y.val) := Lib.hid (HKy.out.trans (NewB.refl _ _) (Kept.of y.below))
                    have HRw := HR1.out.kept HKy.out (NewB.refl _ _)
                    have HIa : Hid (IntsAt y.val.drew.heap.size y.val.drew (some ⟨b1, off1, none⟩) (ints way)) := Lib.hid (HRw.ints.to y.drew)
                    have HIb : Hid (IntsAt (y.val.alloc (.cells #[.int .i64 (v : Int)] 3)).drew.heap.size (y.val.alloc (.cells #[.int .i64 (v : Int)] 3)).drew (some ⟨b1, off1, none⟩) (ints way)) := Lib.hid (HRw.ints.to (y.alloc (.cells #[.int .i64 (v : Int)] 3)).drew)
                    have HQe : Hid (Value.slice (some ⟨b1, off1, none⟩) (q + 1) cpw = .slice (some ⟨b1, off1, none⟩) (ints way).length cpw) := Lib.hid (by rw [ints_len, hq])
                    have hil : 0 < (ints way).length ∧ (ints way).length ≤ 1048576 := by rw [ints_len]; omega
                    have hi8 : (ints way).length + 1 ≤ 1099511627776 := by omega
                    have HXa : Hid (∀ u3 : Later y.val.drew.heap.size y.val.drew, Below wr.heap.size wr u3.val) := Lib.hid (fun u3 => (y.drew.up u3).below)
                    have HXb : Hid (∀ u3 : Later (y.val.alloc (.cells #[.int .i64 (v : Int)] 3)).drew.heap.size (y.val.alloc (.cells #[.int .i64 (v : Int)] 3)).drew, Below wr.heap.size wr u3.val) := Lib.hid (fun u3 => ((y.alloc (.cells #[.int .i64 (v : Int)] 3)).drew.up u3).below)
                    have HXs : Hid (wr.heap.size ≤ y.val.drew.heap.size) := Lib.hid y.size
                    have HXt : Hid (wr.heap.size ≤ (y.val.alloc (.cells #[.int .i64 (v : Int)] 3)).drew.heap.size) := Lib.hid (y.alloc (.cells #[.int .i64 (v : Int)] 3)).drew.size
                    have HXl : Hid (∀ u3 : Later (y.val.alloc (.cells #[.int .i64 (v : Int)] 3)).drew.heap.size (y.val.alloc (.cells #[.int .i64 (v : Int)] 3)).drew, u3.val.cell? ⟨y.val.heap.size, 0, none⟩ = some (.int .i64 (v : Int))) := Lib.hid (fun u3 => by
                      have h1 : RowAt1 (y.val.alloc (.cells #[.int .i64 (v : Int)] 3)).drew y.val.heap.size 3 (.int .i64 (v : Int)) := heap_alloc_new y.val _
                      exact (h1.keep u3.below).c0)
                    have sW : ∀ w', Below wr.heap.size wr w' → w'.cell? ⟨g0, 0, none⟩ = some (.int .i64 n) ∧ w'.cell? ⟨g0, 1, none⟩ = some (.slice a es.length cap) := fun w' h => QG.out w' (HKy.out.trans (NewB.refl _ _) (Kept.of h))
                    have f0 := sW _ y.drew.below
                    have f1 : ∀ z : Later y.val.drew.heap.size y.val.drew, z.val.cell? ⟨g0, 0, none⟩ = some (.int .i64 n) ∧ z.val.cell? ⟨g0, 1, none⟩ = some (.slice a es.length cap) := fun z => sW _ (HXa.out z)
                    have f2 : ∀ (z : Later y.val.drew.heap.size y.val.drew) (o : Obj), (z.val.alloc o).cell? ⟨g0, 0, none⟩ = some (.int .i64 n) ∧ (z.val.alloc o).cell? ⟨g0, 1, none⟩ = some (.slice a es.length cap) := fun z o => f1 (z.alloc o)
                    have f3 : ∀ z : Later (y.val.alloc (.cells #[.int .i64 (v : Int)] 3)).drew.heap.size (y.val.alloc (.cells #[.int .i64 (v : Int)] 3)).drew, z.val.cell? ⟨g0, 0, none⟩ = some (.int .i64 n) ∧ z.val.cell? ⟨g0, 1, none⟩ = some (.slice a es.length cap) := fun z => sW _ (HXb.out z)
                    have f4 := f3 (Later.self _)
                    dsimp only [Later.self, Later.drew, Later.to] at f0 f4
                    clear sW HRw KIn KCo q0y q1y HEd
                    go_region_law (first | ((refine step_newI (w := y.val.drew) (by rfl) _ _ (by rfl) (ints way) b1 off1 cpw (by rfl) (Eq.trans (by rfl) HQe.out) HIa.out hil.1 hil.2 ?_; intro y2 gy cy hown0)) | ((refine step_newI (w := (y.val.alloc (.cells #[.int .i64 (v : Int)] 3)).drew) (by rfl) _ _ (by rfl) (ints way) b1 off1 cpw (by rfl) (Eq.trans (by rfl) HQe.out) HIb.out hil.1 hil.2 ?_; intro y2 gy cy hown0)) | ((refine step_push (B := y.val.drew.heap.size) (W := y.val.drew) (w := y2.val) y2.below y2.size (by rfl) _ _ (by rfl) (ints way) (some ⟨gy, 0, none⟩) cy (v : Int) (by rfl) hown0 (by rfl) hi8 ?_; intro u3 ad3 cp3 hown; obtain ⟨g3, rfl⟩ := own_some hown (by simp))) | ((refine step_pushG (B := (y.val.alloc (.cells #[.int .i64 (v : Int)] 3)).drew.heap.size) (W := (y.val.alloc (.cells #[.int .i64 (v : Int)] 3)).drew) (w := y2.val) y2.below y2.size (by rfl) _ _ (by rfl) (ints way) (some ⟨gy, 0, none⟩) cy (v : Int) y.val.heap.size 1 (by rfl) hown0 (by rfl) (HXl.out y2) hi8 ?_; intro u3 ad3 cp3 hown; obtain ⟨g3, rfl⟩ := own_some hown (by simp))) | (go_simp; go_at_call 20; (with_reducible refine (KI.out u3.val (HXa.out u3) g3 cp3 (hown.mono HXs.out)).mono ?_); rintro e w4 ⟨bb, rfl, hC⟩) | (go_simp; go_at_call 20; (with_reducible refine (KI.out u3.val (HXb.out u3) g3 cp3 (hown.mono HXt.out)).mono ?_); rintro e w4 ⟨bb, rfl, hC⟩))
                    all_goals
                      obtain ⟨b2, hb2, hk4, h4⟩ := hC
                      cases hb2
                      rcases h4 with ⟨rfl, r, ad4, cp4, h5, hO4⟩ | ⟨rfl, h5, ad4, len4, cp4, hO4⟩
                      · have hr := HYes2.out r h5
                        clear HYes2 HNx2 h5
                        go_wp2
                        go_ret
                        exact ⟨HKw.out.trans (NewB.refl _ _) (HKy.out.trans (NewB.refl _ _) hk4), .inl ⟨r, ad4, cp4, hr, rfl, hO4⟩⟩
                      · have HN3 := Lib.hid (HNx2.out h5)
                        clear HYes2 HNx2 h5
                        go_wp2
                        go_roundw
                        case rel => exact ⟨v+1, w4, ad4, len4, cp4, by omega, by go_num, rfl, Lib.hid (HKy.out.trans (NewB.refl _ _) hk4), Lib.hid hO4, HN3⟩
                        case measure => simp [intOf]; omega
        · have hve : v = n := by omega
          subst hve
          have hres : onF v (edB es) tw nx (fuel + 1) way us = none := by rw [HRes.out]; exact fstTo_none HNo.out
          go_wp2
          go_ret
          exact ⟨HKw.out.trans (NewB.refl _ _) HKy.out, .inr ⟨hres, rfl, ad2, len2, cp2, HOy.out⟩⟩

end Go.Proofs.Ytnhpefcjgaimeaa
