
/-
  slices.Compare; rotaref.Greedy; greedy.First.
-/
import Derived.Test.YtjpcelldbhdneaaGrB
import Derived.Test.YtjpcelldbhdneaaRowL
namespace Go.Proofs.Ytjpcelldbhdneaa
open Go.RowKit
set_option linter.unusedVariables false

theorem lexc_at {x y : List Int} {k : Nat} (hx : k < x.length) (hy : k < y.length) : lexc (x.drop k) (y.drop k) = if x.getD k 0 < y.getD k 0 then -1 else if y.getD k 0 < x.getD k 0 then 1 else lexc (x.drop (k + 1)) (y.drop (k + 1)) := by
  have e1 : x.getD k 0 = x[k] := by simp [hx]
  have e2 : y.getD k 0 = y[k] := by simp [hy]
  rw [List.drop_eq_getElem_cons hx, List.drop_eq_getElem_cons hy, e1, e2]
  rfl
theorem lexc_more {x y : List Int} {k : Nat} (hx : k < x.length) (hy : y.length ≤ k) : lexc (x.drop k) (y.drop k) = 1 := by
  rw [List.drop_eq_getElem_cons hx, List.drop_eq_nil_iff.2 hy]
  rfl
theorem lexc_less {x y : List Int} {k : Nat} (hx : x.length ≤ k) (hy : k < y.length) : lexc (x.drop k) (y.drop k) = -1 := by
  rw [List.drop_eq_getElem_cons hy, List.drop_eq_nil_iff.2 hx]
  rfl
theorem lexc_both {x y : List Int} {k : Nat} (hx : x.length ≤ k) (hy : y.length ≤ k) : lexc (x.drop k) (y.drop k) = 0 := by
  rw [List.drop_eq_nil_iff.2 hy, List.drop_eq_nil_iff.2 hx]
  rfl
def cmpI (x y : Int) : Int := if x < y then -1 else if y < x then 1 else 0

set_option maxRecDepth 100000 in
set_option maxHeartbeats 4000000 in
theorem c_cmpCompare {B : Nat} {W : World} (u : Later B W) (x y : Int) :
    Calls Try.prog 189 #[.int .i64 x, .int .i64 y] u.val (Ret B W (.int .i64 (cmpI x y))) := by
  have H := Lib.hid (fun (u : Later B W) x => c_cmpIsNaN u x)
  have HC : Hid (cmpI x y = if x < y then -1 else if y < x then 1 else 0) := Lib.hid rfl
  generalize cmpI x y = r at *
  rcases ilt x y with ⟨g1, d1⟩ | ⟨g1, d1⟩
  · have hr : Hid (r = -1) := Lib.hid (by rw [HC.out, if_pos g1])
    clear HC g1
    go_enter Try.func189, Try.ntmps189
    go_wp2_with (first | (go_at_call 229; refine (H.out _ _).mono ?_; rintro e _ ⟨rfl, v, rfl⟩))
    go_ret
    exact Ret.mk _ (vint hr.out.symm)
  · rcases ilt y x with ⟨g2, d2⟩ | ⟨g2, d2⟩
    · have hr : Hid (r = 1) := Lib.hid (by rw [HC.out, if_neg (by omega), if_pos g2])
      clear HC g1 g2
      go_enter Try.func189, Try.ntmps189
      go_wp2_with (first | (go_at_call 229; refine (H.out _ _).mono ?_; rintro e _ ⟨rfl, v, rfl⟩))
      go_ret
      exact Ret.mk _ (vint hr.out.symm)
    · have hr : Hid (r = 0) := Lib.hid (by rw [HC.out, if_neg (by omega), if_neg (by omega)])
      clear HC g1 g2
      go_enter Try.func189, Try.ntmps189
      go_wp2_with (first | (go_at_call 229; refine (H.out _ _).mono ?_; rintro e _ ⟨rfl, v, rfl⟩))
      go_ret
      exact Ret.mk _ (vint hr.out.symm)

set_option maxRecDepth 100000 in
set_option maxHeartbeats 8000000 in
theorem c_slCompare {B : Nat} {W : World} (u : Later B W) (x y : List Int) (a b : Option Addr) (ca cb : Nat) (ha : IntsAt B W a x) (hb : IntsAt B W b y) (hx : x.length ≤ 4611686018427387904) (hy : y.length ≤ 4611686018427387904) :
    Calls Try.prog 194 #[.slice a x.length ca, .slice b y.length cb] u.val (Ret B W (.int .i64 (lexc x y))) := by
  have HA := Lib.hid ha
  have HB := Lib.hid hb
  have KC := Lib.hid (fun (v : Later B W) (p q : Int) => c_cmpCompare v p q)
  have L1 := Lib.hid (fun k => @lexc_at x y k)
  have L2 := Lib.hid (fun k => @lexc_more x y k)
  have L3 := Lib.hid (fun k => @lexc_less x y k)
  have L4 := Lib.hid (fun k => @lexc_both x y k)
  clear ha hb
  obtain ⟨r, hr⟩ : ∃ r, r = lexc x y := ⟨_, rfl⟩
  rw [← hr]
  have HR : Hid (r = lexc (x.drop 0) (y.drop 0)) := Lib.hid (by rw [hr]; rfl)
  clear hr
  go_enter Try.func194, Try.ntmps194
  go_wp2
  go_loopw [11] (fun i wr => ∃ (k : Nat) (v : Later B W), k ≤ x.length ∧ i = .int .i64 k ∧ wr = v.val ∧ Hid (k ≤ y.length ∧ r = lexc (x.drop k) (y.drop k))) (fun i _ => x.length - (intOf i).toNat)
  case atStart => exact ⟨0, u, by omega, rfl, rfl, Lib.hid ⟨Nat.zero_le _, HR.out⟩⟩
  case round =>
    clear u HR
    obtain ⟨k, v, hk, rfl, rfl, HF⟩ := hrel
    by_cases hlt : k < x.length
    · obtain ⟨ba, oa, rfl, hba, hca⟩ := HA.out.at (k := k) hlt
      have c0 : v.val.cell? ⟨ba, oa + k, none⟩ = some (.int .i64 (x.getD k 0)) := hca v k hlt
      have h2 := L2.out k hlt
      by_cases hly : k < y.length
      · obtain ⟨bb, ob, rfl, hbb, hcb⟩ := HB.out.at (k := k) hly
        have c1 : v.val.cell? ⟨bb, ob + k, none⟩ = some (.int .i64 (y.getD k 0)) := hcb v k hly
        have HL := Lib.hid (L1.out k hlt hly)
        have K := Lib.hid (KC.out v (x.getD k 0) (y.getD k 0))
        clear hca hcb h2
        generalize x.getD k 0 = p at *
        generalize y.getD k 0 = q at *
        unfold cmpI at K
        rcases ilt p q with ⟨g1, d1⟩ | ⟨g1, d1⟩
        · rw [if_pos g1] at K HL
          have HN : Hid (r = -1) := Lib.hid (by rw [HF.out.2, HL.out])
          clear g1 HL HF
          go_wp2_with (first | (go_at_call 189; (with_reducible refine (K.out).mono ?_); rintro e _ ⟨rfl, v1, rfl⟩))
          go_ret
          exact Ret.mk v1 (vint HN.out.symm)
        · rw [if_neg (by omega)] at K HL
          rcases ilt q p with ⟨g2, d2⟩ | ⟨g2, d2⟩
          · rw [if_pos g2] at K HL
            have HN : Hid (r = 1) := Lib.hid (by rw [HF.out.2, HL.out])
            clear g1 g2 HL HF
            go_wp2_with (first | (go_at_call 189; (with_reducible refine (K.out).mono ?_); rintro e _ ⟨rfl, v1, rfl⟩))
            go_ret
            exact Ret.mk v1 (vint HN.out.symm)
          · rw [if_neg (by omega)] at K HL
            have HN : Hid (k + 1 ≤ y.length ∧ r = lexc (x.drop (k + 1)) (y.drop (k + 1))) := Lib.hid ⟨by omega, by rw [HF.out.2, HL.out]⟩
            clear g1 g2 HL HF
            go_wp2_with (first | (go_at_call 189; (with_reducible refine (K.out).mono ?_); rintro e _ ⟨rfl, v1, rfl⟩))
            go_roundw
            case rel => exact ⟨k+1, v1, by omega, by go_num, rfl, HN⟩
            case measure => simp [intOf]; omega
      · have HN : Hid (r = 1) := Lib.hid (by rw [HF.out.2, h2 (by omega)])
        have d1 : decide ((y.length : Int) ≤ (k : Int)) = true := decide_eq_true (by omega)
        clear hca h2 HF
        go_wp2
        go_ret
        exact Ret.mk v (vint HN.out.symm)
    · have hke : k = x.length := by omega
      subst hke
      by_cases hly : x.length < y.length
      · have HN : Hid (r = -1) := Lib.hid (by rw [HF.out.2, L3.out _ (Nat.le_refl _) hly])
        have d1 : decide ((x.length : Int) < (y.length : Int)) = true := decide_eq_true (by omega)
        go_wp2
        go_ret
        exact Ret.mk v (vint HN.out.symm)
      · have HN : Hid (r = 0) := Lib.hid (by rw [HF.out.2, L4.out _ (Nat.le_refl _) (by omega)])
        have d1 : decide ((x.length : Int) < (y.length : Int)) = false := decide_eq_false (by omega)
        go_wp2
        go_ret
        exact Ret.mk v (vint HN.out.symm)

set_option maxRecDepth 100000 in
set_option maxHeartbeats 8000000 in
theorem c_places {B : Nat} {W : World} (u : Later B W) (m s g : Nat) (hm : m ≤ 8) (hs : s < 256) (O : List Nat) (b : Option Addr) (capb : Nat) (ho : IntsAt B W b (ints O)) (hOl : O.length = m) (hO : ∀ j, j < m → O.getD j 0 < m) (hg : g < B) (hbox : W.cell? ⟨g, 0, none⟩ = some (.slice b m capb)) :
    Calls Try.prog 193 #[.int .i64 s, .pointer (some ⟨g, 0, none⟩)] u.val (RetInts B W (ints (plc O s))) := by
  have q0 : ∀ u : Later B W, u.val.cell? ⟨g, 0, none⟩ = some (.slice b m capb) := fun u => by rw [u.cell hg, hbox]
  have HO := Lib.hid hO
  have HI := Lib.hid ho
  have Hl : Hid ((ints O).length = m) := Lib.hid (by rw [ints_len, hOl])
  have HSt := Lib.hid (plcTo_step O s)
  have HLn := Lib.hid (plcTo_len O s)
  have HE : Hid (plc O s = plcTo O s m) := Lib.hid (by rw [← hOl]; rfl)
  have HZ : Hid (plcTo O s 0 = []) := Lib.hid rfl
  clear ho hO hOl hbox
  generalize plcTo O s = P at *
  go_enter Try.func193, Try.ntmps193
  go_wp2
  go_loopw [4, 5] (fun o i wr => ∃ (k : Nat) (ad : Option Addr) (cp : Nat) (v : Later B W), k ≤ m ∧ o = .slice ad (ints (P k)).length cp ∧ i = .int .i64 k ∧ wr = v.val ∧ Hid (Own B v.val ad cp (ints (P k)))) (fun _ i _ => m - (intOf i).toNat)
  case atStart => exact ⟨0, none, 0, u, by omega, by rw [HZ.out]; rfl, rfl, rfl, by rw [HZ.out]; exact Own.nil _ _⟩
  case round =>
    clear u
    obtain ⟨k, ad, cp, v, hk, rfl, rfl, rfl, HO1⟩ := hrel
    have q0' := q0 v
    by_cases hlt : k < m
    · obtain ⟨bb, off, rfl, hbB, hcell⟩ := HI.out.at (k := k) (by rw [Hl.out]; exact hlt)
      have c0 : v.val.cell? ⟨bb, off + k, none⟩ = some (.int .i64 ((O.getD k 0 : Nat) : Int)) := by rw [← ints_getD]; exact hcell v k (by rw [Hl.out]; exact hlt)
      have hx := HO.out k hlt
      have HS := Lib.hid (HSt.out k)
      have HL1 : Hid ((ints (P k)).length ≤ 16) := Lib.hid (by rw [ints_len]; have := HLn.out k; omega)
      have KI := Lib.hid (c_in (Later.self v.val) s (O.getD k 0) (by omega) (by omega))
      dsimp only [Later.self] at KI
      clear hcell
      generalize O.getD k 0 = x at *
      rcases btf (s.testBit x) with g1 | g1
      · rw [g1] at KI
        have HN : Hid (P (k + 1) = P k ++ [k]) := Lib.hid (by rw [HS.out, if_pos g1])
        clear HS g1
        generalize P k = T at *
        go_upto_region 6 with (first | (go_at_call 128; (with_reducible refine (KI.out).mono ?_); rintro e _ ⟨rfl, v1, rfl⟩))
        have HO2 := Lib.hid (HO1.out.keep v1.below)
        obtain ⟨y, hy⟩ : ∃ y : Later B W, y.val = v1.val := ⟨v.up v1, rfl⟩
        rw [← hy] at HO2 ⊢
        clear hy HO1 KI v1 c0
        go_wp2_with (first | (at_builtin; refine wpList_push (B := B) (W := W) (w := y.val) y.below y.size rfl _ _ rfl (ints T) ad cp (k : Int) rfl HO2.out rfl (by have := HL1.out; omega) ?_; intro u2 ad2 cp2 hown))
        go_roundw
        case rel => exact ⟨k+1, ad2, cp2, u2, by omega, by rw [HN.out, ints_snoc]; simp, by go_num, rfl, by rw [HN.out, ints_snoc]; exact hown⟩
        case measure => simp [intOf]; omega
      · rw [g1] at KI
        have HN : Hid (P (k + 1) = P k) := Lib.hid (by rw [HS.out, if_neg (by rw [g1]; decide)])
        clear HS g1
        go_wp2_with (first | (go_at_call 128; (with_reducible refine (KI.out).mono ?_); rintro e _ ⟨rfl, v1, rfl⟩))
        go_roundw
        case rel => exact ⟨k+1, ad, cp, v.up v1, by omega, by rw [HN.out], by go_num, rfl, by rw [HN.out]; exact Lib.hid (HO1.out.keep v1.below)⟩
        case measure => simp [intOf]; omega
    · have hke : k = m := by omega
      subst hke
      go_wp2
      go_ret
      exact RetP.mk v (by rw [HE.out]; exact Reads.of_own HO1.out)

set_option maxRecDepth 100000 in
set_option maxHeartbeats 8000000 in
theorem c_refGreedy {B : Nat} {W : World} (u : Later B W) (m G : Nat) (hm : m ≤ 8) (L O : List Nat) (h256 : ∀ i, i < L.length → L.getD i 0 < 256) (hne : 0 < L.length) (a b : Option Addr) (cap capb : Nat) (h : IntsAt B W a (ints L)) (hlen : L.length ≤ 4611686018427387904) (ho : IntsAt B W b (ints O)) (hOl : O.length = m) (hO : ∀ j, j < m → O.getD j 0 < m)
    (hG : ∃ i, i < L.length ∧ L.getD i 0 = G) (hmin : ∀ i, i < L.length → L.getD i 0 ≠ G → lexc (ints (plc O G)) (ints (plc O (L.getD i 0))) = -1 ∧ lexc (ints (plc O (L.getD i 0))) (ints (plc O G)) = 1) :
    Calls Try.prog 85 #[.agg #[.int .i64 m, .slice a (ints L).length cap], .slice b (ints O).length capb] u.val (Ret B W (.int .i64 G)) := by
  obtain ⟨bb, off, rfl, _, _⟩ := h.at (k := 0) (by rw [ints_len]; exact hne)
  have hil : (ints L).length = L.length := ints_len L
  have hio : (ints O).length = m := by rw [ints_len, hOl]
  have T0 : Two (u.val.alloc (.cells #[.int .i64 m, .slice (some ⟨bb, off, none⟩) L.length cap] 24)) u.val.heap.size 24 (.int .i64 m) (.slice (some ⟨bb, off, none⟩) L.length cap) := Two.new _ _ _ _
  have T1 : RowL ((u.val.alloc (.cells #[.int .i64 m, .slice (some ⟨bb, off, none⟩) L.length cap] 24)).alloc (.cells #[.slice b m capb] 22)) (u.val.alloc (.cells #[.int .i64 m, .slice (some ⟨bb, off, none⟩) L.length cap] 24)).heap.size 22 [.slice b m capb] := RowL.new _ _ _
  have T0' : Two ((u.val.alloc (.cells #[.int .i64 m, .slice (some ⟨bb, off, none⟩) L.length cap] 24)).alloc (.cells #[.slice b m capb] 22)) u.val.heap.size 24 (.int .i64 m) (.slice (some ⟨bb, off, none⟩) L.length cap) := T0.keep ((Later.self (u.val.alloc (.cells #[.int .i64 m, .slice (some ⟨bb, off, none⟩) L.length cap] 24))).alloc _).below
  have e1 : (u.val.alloc (.cells #[.int .i64 m, .slice (some ⟨bb, off, none⟩) L.length cap] 24)).heap.size = u.val.heap.size + 1 := by simp
  have hr1 : (u.val.alloc (.cells #[.int .i64 m, .slice (some ⟨bb, off, none⟩) L.length cap] 24)).heap.size < ((u.val.alloc (.cells #[.int .i64 m, .slice (some ⟨bb, off, none⟩) L.length cap] 24)).alloc (.cells #[.slice b m capb] 22)).heap.size := by simp
  have HI : Hid (IntsAt ((u.val.alloc (.cells #[.int .i64 m, .slice (some ⟨bb, off, none⟩) L.length cap] 24)).alloc (.cells #[.slice b m capb] 22)).heap.size ((u.val.alloc (.cells #[.int .i64 m, .slice (some ⟨bb, off, none⟩) L.length cap] 24)).alloc (.cells #[.slice b m capb] 22)) (some ⟨bb, off, none⟩) (ints L)) := Lib.hid (h.to ((u.alloc _).alloc _))
  have HO1 : Hid (IntsAt ((u.val.alloc (.cells #[.int .i64 m, .slice (some ⟨bb, off, none⟩) L.length cap] 24)).alloc (.cells #[.slice b m capb] 22)).heap.size ((u.val.alloc (.cells #[.int .i64 m, .slice (some ⟨bb, off, none⟩) L.length cap] 24)).alloc (.cells #[.slice b m capb] 22)) b (ints O)) := Lib.hid (ho.to ((u.alloc _).alloc _))
  have q1 : ∀ w : Later ((u.val.alloc (.cells #[.int .i64 m, .slice (some ⟨bb, off, none⟩) L.length cap] 24)).alloc (.cells #[.slice b m capb] 22)).heap.size ((u.val.alloc (.cells #[.int .i64 m, .slice (some ⟨bb, off, none⟩) L.length cap] 24)).alloc (.cells #[.slice b m capb] 22)), w.val.cell? ⟨u.val.heap.size, 1, none⟩ = some (.slice (some ⟨bb, off, none⟩) L.length cap) := fun w => (T0'.keep w.below).c1
  have HB : Hid (∀ w : Later ((u.val.alloc (.cells #[.int .i64 m, .slice (some ⟨bb, off, none⟩) L.length cap] 24)).alloc (.cells #[.slice b m capb] 22)).heap.size ((u.val.alloc (.cells #[.int .i64 m, .slice (some ⟨bb, off, none⟩) L.length cap] 24)).alloc (.cells #[.slice b m capb] 22)), w.val.cell? ⟨(u.val.alloc (.cells #[.int .i64 m, .slice (some ⟨bb, off, none⟩) L.length cap] 24)).heap.size, 0, none⟩ = some (.slice b m capb)) := Lib.hid (fun w => (T1.keep w.below).cell rfl)
  have HV : Hid (∀ v : Later ((u.val.alloc (.cells #[.int .i64 m, .slice (some ⟨bb, off, none⟩) L.length cap] 24)).alloc (.cells #[.slice b m capb] 22)).heap.size ((u.val.alloc (.cells #[.int .i64 m, .slice (some ⟨bb, off, none⟩) L.length cap] 24)).alloc (.cells #[.slice b m capb] 22)), ∃ w : Later B W, w.val = v.val) := Lib.hid (fun v => ⟨((u.alloc _).alloc _).up v, rfl⟩)
  have hgz := hr1
  rw [e1] at HB hgz
  rw [hil, hio]
  have H256 := Lib.hid h256
  have HG := Lib.hid hG
  have HM := Lib.hid hmin
  have HOb := Lib.hid hO
  have KP : Hid (∀ (v : Later ((u.val.alloc (.cells #[.int .i64 m, .slice (some ⟨bb, off, none⟩) L.length cap] 24)).alloc (.cells #[.slice b m capb] 22)).heap.size ((u.val.alloc (.cells #[.int .i64 m, .slice (some ⟨bb, off, none⟩) L.length cap] 24)).alloc (.cells #[.slice b m capb] 22))) (s : Nat), s < 256 → Calls Try.prog 193 #[.int .i64 s, .pointer (some ⟨u.val.heap.size + 1, 0, none⟩)] v.val (RetInts v.val.heap.size v.val (ints (plc O s)))) := Lib.hid (fun v s hs => c_places (Later.self v.val) m s (u.val.heap.size + 1) hm hs O b capb (HO1.out.to v) hOl hO (Nat.lt_of_lt_of_le hgz v.size) (HB.out v))
  have HPl : Hid (∀ s, (ints (plc O s)).length ≤ 8) := Lib.hid (fun s => by rw [ints_len]; have := plcTo_len O s O.length; have e : plc O s = plcTo O s O.length := rfl; rw [e]; omega)
  clear h ho T0 T1 T0' h256 hG hmin hO hOl hil hio HB hr1 HO1
  go_enter Try.func85, Try.ntmps85
  have q1z : ((u.val.alloc (.cells #[.int .i64 m, .slice (some ⟨bb, off, none⟩) L.length cap] 24)).alloc (.cells #[.slice b m capb] 22)).cell? ⟨u.val.heap.size, 1, none⟩ = some (.slice (some ⟨bb, off, none⟩) L.length cap) := q1 (Later.self ((u.val.alloc (.cells #[.int .i64 m, .slice (some ⟨bb, off, none⟩) L.length cap] 24)).alloc (.cells #[.slice b m capb] 22)))
  obtain ⟨bb', off', ea, hbB, hcell⟩ := HI.out.at (k := 0) (by rw [ints_len]; exact hne)
  simp only [Option.some.injEq, Addr.mk.injEq] at ea
  obtain ⟨rfl, rfl, _⟩ := ea
  have HC : Hid (∀ (w : Later ((u.val.alloc (.cells #[.int .i64 m, .slice (some ⟨bb, off, none⟩) L.length cap] 24)).alloc (.cells #[.slice b m capb] 22)).heap.size ((u.val.alloc (.cells #[.int .i64 m, .slice (some ⟨bb, off, none⟩) L.length cap] 24)).alloc (.cells #[.slice b m capb] 22))) (k : Nat), k < L.length → w.val.cell? ⟨bb, off + k, none⟩ = some (.int .i64 ((L.getD k 0 : Nat) : Int))) := Lib.hid (fun w k hk => by rw [← ints_getD]; exact hcell w k (by rw [ints_len]; exact hk))
  obtain ⟨x0, hx0⟩ : ∃ x0, x0 = L.getD 0 0 := ⟨_, rfl⟩
  have c00 : ((u.val.alloc (.cells #[.int .i64 m, .slice (some ⟨bb, off, none⟩) L.length cap] 24)).alloc (.cells #[.slice b m capb] 22)).cell? ⟨bb, off, none⟩ = some (.int .i64 ((x0 : Nat) : Int)) := by rw [hx0]; exact HC.out (Later.self ((u.val.alloc (.cells #[.int .i64 m, .slice (some ⟨bb, off, none⟩) L.length cap] 24)).alloc (.cells #[.slice b m capb] 22))) 0 hne
  have Hx0 : Hid (x0 < 256 ∧ ∃ j, j < L.length ∧ L.getD j 0 = x0) := Lib.hid ⟨by rw [hx0]; exact H256.out 0 hne, ⟨0, hne, hx0.symm⟩⟩
  clear hx0
  have hz0 : (0 : Int) < (L.length : Int) := by omega
  clear hcell
  go_upto_region 3 with fail
  clear q1z c00
  obtain ⟨y, hy⟩ : ∃ y : Later ((u.val.alloc (.cells #[.int .i64 m, .slice (some ⟨bb, off, none⟩) L.length cap] 24)).alloc (.cells #[.slice b m capb] 22)).heap.size ((u.val.alloc (.cells #[.int .i64 m, .slice (some ⟨bb, off, none⟩) L.length cap] 24)).alloc (.cells #[.slice b m capb] 22)), y.val = ((u.val.alloc (.cells #[.int .i64 m, .slice (some ⟨bb, off, none⟩) L.length cap] 24)).alloc (.cells #[.slice b m capb] 22)) := ⟨Later.self _, rfl⟩
  rw [← hy]
  clear hy e1
  generalize u.val.heap.size = g0 at *
  generalize ((u.val.alloc (.cells #[.int .i64 m, .slice (some ⟨bb, off, none⟩) L.length cap] 24)).alloc (.cells #[.slice b m capb] 22)) = Z at *
  clear u
  go_wp2
  go_loopw [6, 7] (fun o i wr => ∃ (k : Nat) (c : Nat) (v : Later Z.heap.size Z), k ≤ L.length ∧ o = .int .i64 c ∧ i = .int .i64 k ∧ wr = v.val ∧ Hid (c < 256 ∧ (∃ j, j < L.length ∧ L.getD j 0 = c) ∧ ((∃ j, j < k ∧ L.getD j 0 = G) → c = G))) (fun _ i _ => L.length - (intOf i).toNat)
  case atStart => exact ⟨0, x0, y, by omega, rfl, rfl, rfl, Lib.hid ⟨Hx0.out.1, Hx0.out.2, fun ⟨j, hj, _⟩ => absurd hj (by omega)⟩⟩
  case round =>
    clear y
    obtain ⟨k, c, v, hk, rfl, rfl, rfl, HF⟩ := hrel
    by_cases hlt : k < L.length
    · have c0 : ∀ w : Later v.val.heap.size v.val, w.val.cell? ⟨bb, off + k, none⟩ = some (.int .i64 ((L.getD k 0 : Nat) : Int)) := fun w => HC.out (v.up w) k hlt
      have q1' : ∀ w : Later v.val.heap.size v.val, w.val.cell? ⟨g0, 1, none⟩ = some (.slice (some ⟨bb, off, none⟩) L.length cap) := fun w => q1 (v.up w)
      have q1v := q1 v
      have c0v := HC.out v k hlt
      have h8 := H256.out k hlt
      have hc8 := HF.out.1
      have K1 := Lib.hid (KP.out v (L.getD k 0) h8)
      have K2 : Hid (∀ w : Later v.val.heap.size v.val, Calls Try.prog 193 #[.int .i64 c, .pointer (some ⟨g0 + 1, 0, none⟩)] w.val (RetInts w.val.heap.size w.val (ints (plc O c)))) := Lib.hid (fun w => KP.out (v.up w) c hc8)
      have KC := Lib.hid (fun (w : World) (a1 a2 : Option Addr) (c1 c2 : Nat) (h1 : IntsAt w.heap.size w a1 (ints (plc O (L.getD k 0)))) (h2 : IntsAt w.heap.size w a2 (ints (plc O c))) => c_slCompare (Later.self w) _ _ a1 a2 c1 c2 h1 h2 (by have := HPl.out (L.getD k 0); omega) (by have := HPl.out c; omega))
      dsimp only [Later.self] at KC
      have HT : Hid (lexc (ints (plc O (L.getD k 0))) (ints (plc O c)) < 0 → (∃ j, j < k + 1 ∧ L.getD j 0 = G) → L.getD k 0 = G) := Lib.hid (fun hlx ⟨j, hj, ej⟩ => by
        by_cases cj : j = k
        · subst cj; exact ej
        · have hcG := HF.out.2.2 ⟨j, by omega, ej⟩
          apply Classical.byContradiction
          intro hne2
          have := (HM.out k hlt hne2).2
          rw [hcG] at hlx; omega)
      have HNt : Hid (0 ≤ lexc (ints (plc O (L.getD k 0))) (ints (plc O c)) → (∃ j, j < k + 1 ∧ L.getD j 0 = G) → c = G) := Lib.hid (fun hlx ⟨j, hj, ej⟩ => by
        by_cases cj : j = k
        · subst cj
          apply Classical.byContradiction
          intro hne2
          obtain ⟨q, hq, eq⟩ := HF.out.2.1
          have := (HM.out q hq (by rw [eq]; exact hne2)).1
          rw [ej, ← eq] at hlx; omega
        · exact HF.out.2.2 ⟨j, by omega, ej⟩)
      have HMk : Hid (∃ j, j < L.length ∧ L.getD j 0 = L.getD k 0) := Lib.hid ⟨k, hlt, rfl⟩
      have HMc := Lib.hid HF.out.2.1
      clear HF hc8
      generalize hxx : L.getD k 0 = x at *
      clear hxx
      generalize hX : ints (plc O x) = X at *
      generalize hY : ints (plc O c) = Y at *
      clear hX hY
      generalize lexc X Y = r at *
      rcases ilt r 0 with ⟨g1, d1⟩ | ⟨g1, d1⟩
      · have HN := Lib.hid (HT.out g1)
        clear HT HNt g1
        go_upto_region 7 with (first | (go_at_call 193; (with_reducible refine (K1.out).mono ?_); rintro e _ ⟨_, rfl, ⟨ad1, cp1, rfl, hI1, _⟩, v1, rfl⟩) | (go_at_call 193; (with_reducible refine (K2.out v1).mono ?_); rintro e _ ⟨_, rfl, ⟨ad2, cp2, rfl, hI2, _⟩, v2, rfl⟩) | (go_at_call 194; (with_reducible refine (KC.out v2.val ad1 ad2 cp1 cp2 (hI1.to v2) hI2).mono ?_); rintro e _ ⟨rfl, v3, rfl⟩))
        have c0w : v3.val.cell? ⟨bb, off + k, none⟩ = some (.int .i64 (x : Int)) := c0 ((v1.up v2).up v3)
        have q1w : v3.val.cell? ⟨g0, 1, none⟩ = some (.slice (some ⟨bb, off, none⟩) L.length cap) := q1' ((v1.up v2).up v3)
        go_wp2
        go_roundw
        case rel => exact ⟨k+1, x, v.up ((v1.up v2).up v3), by omega, rfl, by go_num, rfl, Lib.hid ⟨h8, HMk.out, HN.out⟩⟩
        case measure => simp [intOf]; omega
      · have HN := Lib.hid (HNt.out g1)
        have hc8 : Hid (c < 256) := Lib.hid (by
          obtain ⟨q, hq, eq⟩ := HMc.out
          rw [← eq]; exact H256.out q hq)
        clear HT HNt g1
        go_wp2_with (first | (go_at_call 193; (with_reducible refine (K1.out).mono ?_); rintro e _ ⟨_, rfl, ⟨ad1, cp1, rfl, hI1, _⟩, v1, rfl⟩) | (go_at_call 193; (with_reducible refine (K2.out v1).mono ?_); rintro e _ ⟨_, rfl, ⟨ad2, cp2, rfl, hI2, _⟩, v2, rfl⟩) | (go_at_call 194; (with_reducible refine (KC.out v2.val ad1 ad2 cp1 cp2 (hI1.to v2) hI2).mono ?_); rintro e _ ⟨rfl, v3, rfl⟩))
        go_roundw
        case rel => exact ⟨k+1, c, v.up ((v1.up v2).up v3), by omega, rfl, by go_num, rfl, Lib.hid ⟨hc8.out, HMc.out, HN.out⟩⟩
        case measure => simp [intOf]; omega
    · have hke : k = L.length := by omega
      subst hke
      have HN := Lib.hid (HF.out.2.2 HG.out)
      have q1v := q1 v
      go_wp2
      go_ret
      exact Ret.of (HV.out v) (vint (by rw [HN.out]))

end Go.Proofs.Ytjpcelldbhdneaa
