
/-
  field.Kernel.
-/
import Derived.Test.YtffnpokceomncaaFrC
import Derived.Test.YtffnpokceomncaaFam
namespace Go.Proofs.Ytffnpokceomncaa
open Go.RowKit
set_option linter.unusedVariables false

/-- the row of a free place, under way -/
def krW (p : Nat) (M : Nat → Nat → Int) (A : List Nat) (c i : Nat) (j : Nat) : Int := if j = c then 1 else isum (fun k => if A.getD k 0 = j then ((p : Int) - M k c) % (p : Int) else 0) i
theorem krW_all (p : Nat) (M : Nat → Nat → Int) (A : List Nat) (c : Nat) : krW p M A c A.length = krn p M A c := rfl
theorem krW_zero (p : Nat) (M : Nat → Nat → Int) (A : List Nat) (c j : Nat) : krW p M A c 0 j = if j = c then 1 else 0 := by unfold krW; simp [isum]
theorem krW_step {p C N : Nat} {M0 M : Nat → Nat → Int} {A : List Nat} {cc : Nat} (h : RdS p C N M0 M cc A) {c i : Nat} (hi : i < A.length) (hc : ∀ k, k < A.length → A.getD k 0 ≠ c) (j : Nat) : krW p M A c (i + 1) j = if j = A.getD i 0 then ((p : Int) - M i c) % (p : Int) else krW p M A c i j := by
  unfold krW
  have e : isum (fun k => if A.getD k 0 = j then ((p : Int) - M k c) % (p : Int) else 0) (i + 1) = isum (fun k => if A.getD k 0 = j then ((p : Int) - M k c) % (p : Int) else 0) i + (if A.getD i 0 = j then ((p : Int) - M i c) % (p : Int) else 0) := rfl
  rw [e]
  by_cases d : j = A.getD i 0
  · have hz : isum (fun k => if A.getD k 0 = j then ((p : Int) - M k c) % (p : Int) else 0) i = 0 := isum_zero (fun k hk => if_neg (fun e2 => by
      have := h.rise k i hk hi
      omega))
    rw [hz, if_pos d, if_pos d.symm, if_neg (fun e2 => hc i hi (by omega))]
    omega
  · rw [if_neg d, if_neg (show ¬ A.getD i 0 = j from fun e2 => d e2.symm)]
    by_cases f : j = c
    · rw [if_pos f, if_pos f]
    · rw [if_neg f, if_neg f]; omega

/-- what field.Kernel hands back -/
def KerRes (B p C N : Nat) (M0 : Nat → Nat → Int) (v : Value) (w : World) : Prop :=
  ∃ (A : List Nat) (M : Nat → Nat → Int) (cc : Nat), RdS p C N M0 M cc A ∧ cc ≤ C ∧ (cc = C ∨ A.length = N) ∧
    ((6 < C - A.length ∧ MatM B 0 0 0 0 (fun _ _ => 0) 2 v w) ∨ (C - A.length ≤ 6 ∧ ∃ k M2, RdSt p C (freeT A C).length (fun i => krn p M A ((freeT A C).getD i 0)) k M2 ∧ MatM B p C k C M2 0 v w))
theorem RdS.free_len {p C N : Nat} {M0 M : Nat → Nat → Int} {A : List Nat} {cc : Nat} (h : RdS p C N M0 M cc A) (hcc : cc ≤ C) : (freeT A C).length + A.length = C := by
  have hnd : A.Nodup := by
    rw [List.Nodup, List.pairwise_iff_getElem]
    intro i j hi hj hij
    have := h.rise i j hij hj
    simp only [List.getD_eq_getElem?_getD, List.getElem?_eq_getElem hi, List.getElem?_eq_getElem hj, Option.getD_some] at this
    omega
  have h1 := freeT_len A hnd C
  have h2 : A.countP (fun x => decide (x < C)) = A.length := by
    rw [List.countP_eq_length]
    intro x hx
    obtain ⟨i, hi, rfl⟩ := List.getElem_of_mem hx
    have := h.at_lt i hi
    simp only [List.getD_eq_getElem?_getD, List.getElem?_eq_getElem hi, Option.getD_some] at this
    simp; omega
  omega
theorem not_mem_getD {A : List Nat} {c : Nat} (h : c ∉ A) : ∀ k, k < A.length → A.getD k 0 ≠ c := fun k hk e => h (by
  rw [← e, List.getD_eq_getElem?_getD, List.getElem?_eq_getElem hk]
  simp)
theorem getD_snoc {A : List Nat} {c k : Nat} (h : A.length = k) (i : Nat) (hi : i < k + 1) : (A ++ [c]).getD i 0 = if i = k then c else A.getD i 0 := by
  rw [List.getD_eq_getElem?_getD, List.getD_eq_getElem?_getD]
  by_cases e : i = k
  · subst e
    rw [if_pos rfl, ← h, List.getElem?_append_right (Nat.le_refl _)]
    simp
  · rw [if_neg e, List.getElem?_append_left (by omega)]
theorem mem_ints' {A : List Nat} {c : Nat} : ((c : Int) ∈ ints A) ↔ c ∈ A := by
  simp only [ints, List.mem_map]
  constructor
  · rintro ⟨x, hx, e⟩
    have : x = c := by exact_mod_cast e
    exact this ▸ hx
  · intro hc
    exact ⟨c, hc, rfl⟩

set_option maxRecDepth 100000 in
set_option maxHeartbeats 16000000 in
theorem c_fieldKernel {B : Nat} {W : World} (u : Later B W) (p C : Nat) (rows : Lls) (a : Option Addr) (cap : Nat) (h : RowsI B W a rows) (hp : PrimeP p) (hm : isMatrix (p : Int) (C : Int) rows) :
    Calls Try.prog 18 #[.agg #[.int .i64 p, .int .i64 C, .slice a rows.length cap]] u.val (RetP B W (KerRes B p C rows.length (ent rows))) := by
  have hB := u.size
  have hp7 := hp.le
  have hp0 : (p : Int) ≠ 0 := by omega
  have hpn : p ≠ 0 := by omega
  have hn6 : rows.length ≤ 6 := hm.2.2.1
  have hC8 : C ≤ 8 := by have := hm.2.1.2; omega
  have k1 : (u.val.alloc (.cells #[.int .i64 p, .int .i64 C, .slice a rows.length cap] 24)).heap.size = u.val.heap.size + 1 := by simp
  have TX : Hid (RowL ((u.val.alloc (.cells #[.int .i64 p, .int .i64 C, .slice a rows.length cap] 24)).alloc (.cells #[.int .i64 0, .int .i64 0, .slice none 0 0] 24)) u.val.heap.size 24 [.int .i64 p, .int .i64 C, .slice a rows.length cap]) := Lib.hid ((RowL.new u.val 24 _).keep ((Below.refl _ _).alloc (Nat.le_refl _) _))
  have TZ : Hid (RowL ((u.val.alloc (.cells #[.int .i64 p, .int .i64 C, .slice a rows.length cap] 24)).alloc (.cells #[.int .i64 0, .int .i64 0, .slice none 0 0] 24)) (u.val.heap.size + 1) 24 [.int .i64 0, .int .i64 0, .slice none 0 0]) := Lib.hid (by
    have h := RowL.new (u.val.alloc (.cells #[.int .i64 p, .int .i64 C, .slice a rows.length cap] 24)) 24 [.int .i64 0, .int .i64 0, .slice none 0 0]
    rwa [k1] at h)
  have HZ : Hid (((u.val.alloc (.cells #[.int .i64 p, .int .i64 C, .slice a rows.length cap] 24)).alloc (.cells #[.int .i64 0, .int .i64 0, .slice none 0 0] 24)).heap.size = u.val.heap.size + 1 + 1) := Lib.hid (by simp)
  have HV : Hid (∀ w : World, Below (u.val.heap.size + 1) ((u.val.alloc (.cells #[.int .i64 p, .int .i64 C, .slice a rows.length cap] 24)).alloc (.cells #[.int .i64 0, .int .i64 0, .slice none 0 0] 24)) w → ∃ x : Later B W, x.val = w) := Lib.hid (fun w hb => ⟨⟨w, ((u.alloc _).alloc _).below.trans (hb.mono (by omega)), by have := hb.size; simp at this; omega⟩, rfl⟩)
  have HXs : Hid (RowsI ((u.val.alloc (.cells #[.int .i64 p, .int .i64 C, .slice a rows.length cap] 24)).alloc (.cells #[.int .i64 0, .int .i64 0, .slice none 0 0] 24)).heap.size ((u.val.alloc (.cells #[.int .i64 p, .int .i64 C, .slice a rows.length cap] 24)).alloc (.cells #[.int .i64 0, .int .i64 0, .slice none 0 0] 24)) a rows) := Lib.hid (h.to ((u.alloc _).alloc _))
  have hrl : ∀ i, i < rows.length → (rows.getD i []).length = C := fun i hi => by have := (hm.2.2.2 i hi).1; omega
  have hsm : Small p rows.length C (ent rows) := fun i j hi hj => (hm.2.2.2 i hi).2 j (by rw [hrl i hi]; exact hj)
  have HSm := Lib.hid hsm
  have HRl := Lib.hid hrl
  have HM := Lib.hid hm
  clear h k1 hsm hrl hm
  go_enter Try.func18, Try.ntmps18
  go_upto_region 1 with fail
  generalize ((u.val.alloc (.cells #[.int .i64 p, .int .i64 C, .slice a rows.length cap] 24)).alloc (.cells #[.int .i64 0, .int .i64 0, .slice none 0 0] 24)) = Y at *
  generalize u.val.heap.size = g0 at *
  clear u
  have x0 : ∀ v : Later Y.heap.size Y, v.val.cell? ⟨g0, 0, none⟩ = some (.int .i64 p) := fun v => (TX.out.keep v.below).cell rfl
  have x1 : ∀ v : Later Y.heap.size Y, v.val.cell? ⟨g0, 1, none⟩ = some (.int .i64 C) := fun v => (TX.out.keep v.below).cell rfl
  have x2 : ∀ v : Later Y.heap.size Y, v.val.cell? ⟨g0, 2, none⟩ = some (.slice a rows.length cap) := fun v => (TX.out.keep v.below).cell rfl
  obtain ⟨z, hz⟩ : ∃ z : Later Y.heap.size Y, z.val = Y := ⟨Later.self _, rfl⟩
  have KX : Hid (Calls Try.prog 32 #[.agg #[.int .i64 p, .int .i64 C, .slice a rows.length cap]] z.val (Ret Y.heap.size Y (.int .i64 0))) := Lib.hid (by
    have := c_checkMatrix z p C rows a cap HXs.out (by omega) (fun i hi => by rw [HRl.out i hi]; omega)
    rwa [decide_eq_true HM.out] at this)
  have KT := Lib.hid (fun v : Later Y.heap.size Y => c_twin v (p : Int) (C : Int) rows a cap C HXs.out hn6 hC8 HRl.out)
  rw [← hz]
  clear hz
  have d0 := x0 z
  have d1 := x1 z
  have d2 := x2 z
  go_upto_region 5 with (first | (go_at_call 32; (with_reducible refine (KX.out).mono ?_); rintro e _ ⟨rfl, v1, rfl⟩; have q0a := x0 v1; have q1a := x1 v1; have q2a := x2 v1) | (go_at_call 34; (with_reducible refine (KT.out v1).mono ?_); rintro e _ ⟨_, rfl, ⟨ad, gc, hd, r, cp, rfl, hMx⟩, v2, rfl⟩) | fail)
  clear d0 d1 d2 KX KT q0a q1a q2a x2
  obtain ⟨y, hy⟩ : ∃ y : Later Y.heap.size Y, y.val = (v2.val.alloc (.cells #[.int .i64 p, .int .i64 C, .slice ad rows.length gc] 24)) := ⟨v2.alloc _, rfl⟩
  have HBx : Hid (RowL y.val v2.val.heap.size 24 [.int .i64 p, .int .i64 C, .slice ad rows.length gc]) := Lib.hid (by rw [hy]; exact RowL.new _ _ _)
  have KR : Hid (Calls Try.prog 39 #[.pointer (some ⟨v2.val.heap.size, 0, none⟩)] y.val (RetP Y.heap.size Y (RdRes Y.heap.size y.val.heap.size v2.val.heap.size rows.length C p (ent rows)))) := Lib.hid (by
    refine c_reduced y v2.val.heap.size gc rows.length C p ad hd r cp (ent rows) HBx.out (by rw [hy]; exact hMx.keep ((Below.refl _ _).alloc (Nat.le_refl _) _)) v2.size (fun g e => ?_) (fun hC i hi => ?_) hp (by omega) hC8 HSm.out
    · rcases hMx.form with ⟨e1, _⟩ | ⟨g', e1, _, h2⟩
      · rw [e] at e1; cases e1
      · rw [e] at e1; cases e1; omega
    · have := (hMx.rlt hC hi).2; omega)
  have hgo := v2.size
  rw [← hy]
  generalize v2.val.heap.size = go at *
  clear hy hMx v1 v2
  go_upto_region 6 with (first | (go_at_call 39; (with_reducible refine (KR.out).mono ?_); rintro e _ ⟨_, rfl, ⟨A, M, cc, ada, cpa, ad', gc', hd', r', cp', rfl, hO, hR, hcc, hend, hbx, hmx⟩, v3, rfl⟩) | fail)
  have HT := Lib.hid (TZ.out.keep v3.below)
  have hYs := HZ.out
  have HO := Lib.hid hO
  have HR := Lib.hid hR
  have HE := Lib.hid hend
  have HBo := Lib.hid hbx
  have HMo := Lib.hid hmx
  have HFl := Lib.hid (hR.free_len hcc)
  have HAL : Hid (∀ n, n = A.length → n ≤ 6 ∧ n ≤ C) := Lib.hid (fun n e => by
    have := hR.le
    have := hR.free_len hcc
    omega)
  have f0 := x0 v3
  have f1 := x1 v3
  clear hO hR hend hbx hmx HBx KR HXs HSm HRl HM
  obtain ⟨n, hn⟩ : ∃ n, n = A.length := ⟨_, rfl⟩
  have hn6' := HAL.out n hn
  have HL := Lib.hid hn
  rw [← hn] at HBo HMo HE HFl ⊢
  clear hn HAL
  have w1 := IntWalk.i64_in ((C : Int) - (n : Int)) (by omega)
  by_cases h6 : 6 < C - n
  · have g6 : (6 : Int) < (C : Int) - (n : Int) := by omega
    have Z0 : v3.val.frozen? ⟨g0 + 1, 0, none⟩ = false := HT.out.fz 0
    have Z1 : ∀ x : Value, (v3.val.setCell ⟨g0 + 1, 0, none⟩ x).frozen? ⟨g0 + 1, 1, none⟩ = false := fun x => (HT.out.set 0 x).fz 1
    have Z2 : ∀ x y : Value, ((v3.val.setCell ⟨g0 + 1, 0, none⟩ x).setCell ⟨g0 + 1, 1, none⟩ y).frozen? ⟨g0 + 1, 2, none⟩ = false := fun x y => ((HT.out.set 0 x).set 1 y).fz 2
    have G0 : v3.val.cell? ⟨g0 + 1, 0, none⟩ = some (.int .i64 0) := HT.out.cell rfl
    have G1 : ∀ x : Value, (v3.val.setCell ⟨g0 + 1, 0, none⟩ x).cell? ⟨g0 + 1, 1, none⟩ = some (.int .i64 0) := fun x => (HT.out.set 0 x).cell rfl
    have G2 : ∀ x y : Value, ((v3.val.setCell ⟨g0 + 1, 0, none⟩ x).setCell ⟨g0 + 1, 1, none⟩ y).cell? ⟨g0 + 1, 2, none⟩ = some (.slice none 0 0) := fun x y => ((HT.out.set 0 x).set 1 y).cell rfl
    have HX : Hid (∃ x : Later B W, x.val = (((v3.val.setCell ⟨g0 + 1, 0, none⟩ (.int .i64 0)).setCell ⟨g0 + 1, 1, none⟩ (.int .i64 0)).setCell ⟨g0 + 1, 2, none⟩ (.slice none 0 0))) := Lib.hid (HV.out _ ((((v3.below.mono (by omega)).trans (below_set (Nat.le_refl _) (.int .i64 0))).trans (below_set (Nat.le_refl _) (.int .i64 0))).trans (below_set (i := 2) (Nat.le_refl _) (.slice none 0 0))))
    have H6 := Lib.hid h6
    clear HO HBo HMo TX TZ HV h6
    go_wp2
    refine bodyPost_ret (results_row (vs := [.int .i64 0, .int .i64 0, .slice none 0 0]) rfl _ _ (g0 + 1) rfl (((HT.out.set 0 _).set 1 _).set 2 _) Try.underlying24 (by kernel_rfl)) rfl ?_
    refine RetP.of HX.out ⟨A, M, cc, HR.out, hcc, ?_, .inl ⟨?_, none, 0, fun _ => none, fun _ => 0, fun _ => 0, rfl, Mtx.start _ _ _ _ _ _ _⟩⟩
    · have := HE.out; rw [HL.out] at this; exact this
    · have := H6.out; rw [HL.out] at this; exact this
  · have g6 : ¬ (6 : Int) < (C : Int) - (n : Int) := by omega
    have HB0 : Hid (RowL (v3.val.alloc (.cells #[.int .i64 p, .int .i64 C, .slice none 0 0] 24)) v3.val.heap.size 24 [.int .i64 p, .int .i64 C, .slice none 0 0]) := Lib.hid (RowL.new _ _ _)
    have HXO : Hid ((v3.val.alloc (.cells #[.int .i64 p, .int .i64 C, .slice none 0 0] 24)).heap.size = v3.val.heap.size + 1) := Lib.hid (by simp)
    have hv3 := v3.size
    have hgol := HBo.out.lt
    have HL3 : Hid (∀ w : World, Below v3.val.heap.size (v3.val.alloc (.cells #[.int .i64 p, .int .i64 C, .slice none 0 0] 24)) w → ∃ u : Later Y.heap.size Y, u.val = w) := Lib.hid (fun w hb => by
      have h1 : Below v3.val.heap.size v3.val w := ((Below.refl _ _).alloc (Nat.le_refl _) _).trans hb
      exact ⟨v3.to w (h1.mono v3.size), rfl⟩)
    have HK3 : Hid (∀ w : World, Below v3.val.heap.size (v3.val.alloc (.cells #[.int .i64 p, .int .i64 C, .slice none 0 0] 24)) w → Below v3.val.heap.size v3.val w) := Lib.hid (fun w hb => ((Below.refl _ _).alloc (Nat.le_refl _) _).trans hb)
    have HO2 : Hid (IntsAt v3.val.heap.size (v3.val.alloc (.cells #[.int .i64 p, .int .i64 C, .slice none 0 0] 24)) ada (ints A)) := Lib.hid (HO.out.reads.later ((Below.refl _ _).alloc (Nat.le_refl _) _))
    have HM2 : Hid (∀ w : World, Below v3.val.heap.size (v3.val.alloc (.cells #[.int .i64 p, .int .i64 C, .slice none 0 0] 24)) w → Mtx Y.heap.size w ad' gc' n C hd' r' cp' M ∧ RowL w go 24 [.int .i64 p, .int .i64 C, .slice ad' n gc'] ∧ RowL w (g0 + 1) 24 [.int .i64 0, .int .i64 0, .slice none 0 0]) := Lib.hid (fun w hb => by
      have h1 : Below v3.val.heap.size v3.val w := ((Below.refl _ _).alloc (Nat.le_refl _) _).trans hb
      exact ⟨HMo.out.keep h1, HBo.out.keep h1, HT.out.keep h1⟩)
    go_upto_region 9 with fail
    clear f0 f1 g6 HBo HMo HO HT TZ TX w1
    obtain ⟨g2, hg2⟩ : ∃ g2, g2 = v3.val.heap.size := ⟨_, rfl⟩
    rw [← hg2] at HB0 HXO HL3 HK3 HO2 HM2 hv3 hgol ⊢
    generalize hXe : (v3.val.alloc (.cells #[.int .i64 p, .int .i64 C, .slice none 0 0] 24)) = X at *
    clear hXe hg2 HK3 v3 y z
    have q0 : ∀ w : World, Below g2 X w → w.cell? ⟨g0, 0, none⟩ = some (.int .i64 p) := fun w hb => by
      obtain ⟨x, hx⟩ := HL3.out w hb
      rw [← hx]; exact x0 x
    have q1 : ∀ w : World, Below g2 X w → w.cell? ⟨g0, 1, none⟩ = some (.int .i64 C) := fun w hb => by
      obtain ⟨x, hx⟩ := HL3.out w hb
      rw [← hx]; exact x1 x
    clear x0 x1
    obtain ⟨z, hz⟩ : ∃ z : Later g2 X, z.val = X := ⟨⟨X, Below.refl _ _, by rw [HXO.out]; omega⟩, rfl⟩
    have HS0 : Hid (g2 + 1 ≤ z.val.heap.size) := Lib.hid (by rw [hz, HXO.out]; omega)
    have q1z := q1 z.val z.below
    rw [← hz] at HB0 ⊢
    clear hz HXO
    go_wp2
    clear q1z
    go_loopw [35] (fun i wr => ∃ (c k : Nat) (v : Later g2 X) (ad : Option Addr) (gc : Nat) (hd : Nat → Option Addr) (r cp : Nat → Nat), c ≤ C ∧ i = .int .i64 c ∧ wr = v.val ∧ k ≤ c ∧ Hid ((freeT A c).length = k) ∧ Hid (g2 + 1 ≤ v.val.heap.size) ∧ Hid (RowL v.val g2 24 [.int .i64 p, .int .i64 C, .slice ad k gc]) ∧ Hid (Mtx (g2 + 1) v.val ad gc k C hd r cp (fun i => krn p M A ((freeT A c).getD i 0)))) (fun i _ => C - (intOf i).toNat)
    case atStart => exact ⟨0, 0, z, none, 0, fun _ => none, fun _ => 0, fun _ => 0, by omega, by first | rfl | go_num, rfl, by omega, Lib.hid rfl, HS0, HB0, Lib.hid (Mtx.start _ _ _ _ _ _ _)⟩
    case round =>
      clear HB0 HS0 z
      obtain ⟨c, k, v, ad, gc, hd, r, cp, hc, rfl, rfl, hkc, HLk, HS, HB, HM⟩ := hrel
      by_cases hcC : c < C
      · have KC : Hid (Calls Try.prog 40 #[.slice ada n cpa, .int .i64 c] v.val (Ret v.val.heap.size v.val (.bool (decide (c ∈ A))))) := Lib.hid (by
          have := c_contains (Later.self v.val) (ints A) (c : Int) ada cpa (HO2.out.to v) (by simp [ints]; have := HL.out; omega)
          rw [show (ints A).length = n by rw [HL.out]; simp [ints]] at this
          rwa [decide_eq_decide.2 mem_ints'] at this)
        by_cases hmem : c ∈ A
        · rw [decide_eq_true hmem] at KC
          have HF2 : Hid (freeT A (c + 1) = freeT A c) := Lib.hid (by simp only [freeT]; rw [if_pos hmem])
          clear hmem
          go_upto_region 21 with (first | (go_at_call 40; (with_reducible refine (KC.out).mono ?_); rintro e _ ⟨rfl, v1, rfl⟩) | fail)
          obtain ⟨x, hx⟩ : ∃ x : Later g2 X, x.val = v1.val := ⟨v.up v1, rfl⟩
          have HSx : Hid (g2 + 1 ≤ x.val.heap.size) := Lib.hid (by rw [hx]; have := v1.size; have := HS.out; omega)
          have HBx : Hid (RowL x.val g2 24 [.int .i64 p, .int .i64 C, .slice ad k gc]) := Lib.hid (by rw [hx]; exact HB.out.keep v1.below)
          have HMx : Hid (Mtx (g2 + 1) x.val ad gc k C hd r cp (fun i => krn p M A ((freeT A (c + 1)).getD i 0))) := Lib.hid (by rw [hx, HF2.out]; exact HM.out.keep v1.below)
          rw [← hx]
          clear hx
          go_wp2
          go_roundw
          case rel => exact ⟨c + 1, k, x, ad, gc, hd, r, cp, by omega, by go_num, by first | rfl | trivial, by omega, Lib.hid (by rw [HF2.out]; exact HLk.out), HSx, HBx, HMx⟩
          case measure => simp [intOf]; omega
        · rw [decide_eq_false hmem] at KC
          have HF2 : Hid (freeT A (c + 1) = freeT A c ++ [c]) := Lib.hid (by simp only [freeT]; rw [if_neg hmem])
          have HNm := Lib.hid (not_mem_getD hmem)
          clear hmem
          go_upto_region 13 with (first | (go_at_call 40; (with_reducible refine (KC.out).mono ?_); rintro e _ ⟨rfl, v1, rfl⟩) | fail)
          obtain ⟨x, hx⟩ : ∃ x : Later g2 X, x.val = v1.val := ⟨v.up v1, rfl⟩
          have HSx : Hid (g2 + 1 ≤ x.val.heap.size) := Lib.hid (by rw [hx]; have := v1.size; have := HS.out; omega)
          have HBx : Hid (RowL x.val g2 24 [.int .i64 p, .int .i64 C, .slice ad k gc]) := Lib.hid (by rw [hx]; exact HB.out.keep v1.below)
          have HMx : Hid (Mtx (g2 + 1) x.val ad gc k C hd r cp (fun i => krn p M A ((freeT A c).getD i 0))) := Lib.hid (by rw [hx]; exact HM.out.keep v1.below)
          rw [← hx]
          clear hx HS HB HM KC v1
          have q1x := q1 x.val x.below
          have mk := mk_tab C (by omega)
          have HT0 : Hid (ITab (x.val.alloc (.cells (madeCells #[.int .i64 0] C) 3)) x.val.heap.size C (fun _ => 0)) := Lib.hid (ITab.made _ _)
          have t0 : (x.val.alloc (.cells (madeCells #[.int .i64 0] C) 3)).cell? ⟨x.val.heap.size, c, none⟩ = some (.int .i64 0) := HT0.out.cell hcC
          have t1 : (x.val.alloc (.cells (madeCells #[.int .i64 0] C) 3)).frozen? ⟨x.val.heap.size, c, none⟩ = false := HT0.out.frozen c
          have HT1 : Hid (ITab ((x.val.alloc (.cells (madeCells #[.int .i64 0] C) 3)).setCell ⟨x.val.heap.size, c, none⟩ (.int .i64 1)) x.val.heap.size C (krW p M A c 0)) := Lib.hid (HT0.out.set c 1 (fun j hj => by rw [krW_zero]))
          have HbR : Hid (Below x.val.heap.size x.val ((x.val.alloc (.cells (madeCells #[.int .i64 0] C) 3)).setCell ⟨x.val.heap.size, c, none⟩ (.int .i64 1))) := Lib.hid (((Below.refl _ _).alloc (Nat.le_refl _) _).trans (below_set (Nat.le_refl _) _))
          have HM3 : Hid (Mtx (g2 + 1) ((x.val.alloc (.cells (madeCells #[.int .i64 0] C) 3)).setCell ⟨x.val.heap.size, c, none⟩ (.int .i64 1)) ad gc k C hd r cp (fun i => krn p M A ((freeT A c).getD i 0))) := Lib.hid (HMx.out.keep HbR.out)
          have HB3 : Hid (RowL ((x.val.alloc (.cells (madeCells #[.int .i64 0] C) 3)).setCell ⟨x.val.heap.size, c, none⟩ (.int .i64 1)) g2 24 [.int .i64 p, .int .i64 C, .slice ad k gc]) := Lib.hid (HBx.out.keep HbR.out)
          have HbW : Hid (Below g2 X ((x.val.alloc (.cells (madeCells #[.int .i64 0] C) 3)).setCell ⟨x.val.heap.size, c, none⟩ (.int .i64 1))) := Lib.hid (x.below.trans (HbR.out.mono x.size))
          have HW3 : Hid (((x.val.alloc (.cells (madeCells #[.int .i64 0] C) 3)).setCell ⟨x.val.heap.size, c, none⟩ (.int .i64 1)).heap.size = x.val.heap.size + 1) := Lib.hid (by simp)
          have HMlt : Hid (∀ i, i < k → 0 < C → r i < x.val.heap.size) := Lib.hid (fun i hi hC => (HMx.out.rlt hC hi).2)
          have HAlt : Hid (∀ g, ad = some ⟨g, 0, none⟩ → g < x.val.heap.size) := Lib.hid (fun g hg => by
            rcases HMx.out.form with ⟨e1, _⟩ | ⟨g', e1, _, e3⟩
            · rw [hg] at e1; cases e1
            · rw [hg] at e1; cases e1; exact e3)
          go_upto_region 14 with fail
          obtain ⟨rl, hrl⟩ : ∃ rl, rl = x.val.heap.size := ⟨_, rfl⟩
          have hrl1 : g2 + 1 ≤ rl := by have := HSx.out; omega
          have hrx := x.size
          generalize hWe : (x.val.alloc (.cells (madeCells #[.int .i64 0] C) 3)) = W2 at *
          clear hWe
          rw [← hrl] at HT0 HT1 HW3 HMlt HAlt HM3 HB3 HbW t0 t1 ⊢
          clear hrl HMx HBx HSx
          go_upto_region 15 with fail
          clear q1x mk t0 t1 HT0 HbR
          generalize hWe : W2.setCell ⟨rl, c, none⟩ (.int .i64 1) = W3 at *
          clear hWe
          obtain ⟨z, hz⟩ : ∃ z : Later rl W3, z.val = W3 := ⟨⟨W3, Below.refl _ _, by rw [HW3.out]; omega⟩, rfl⟩
          rw [← hz] at HT1 ⊢
          have HSz : Hid (rl < z.val.heap.size) := Lib.hid (by rw [hz, HW3.out]; omega)
          clear hz
          have HbL : Hid (∀ w : World, Below rl W3 w → Below g2 X w) := Lib.hid (fun w hb => HbW.out.trans (hb.mono (by omega)))
          go_wp2
          go_loopw [49] (fun i wr => ∃ (q : Nat) (v : Later rl W3), q ≤ n ∧ i = .int .i64 q ∧ wr = v.val ∧ Hid (rl < v.val.heap.size) ∧ Hid (ITab v.val rl C (krW p M A c q))) (fun i _ => n - (intOf i).toNat)
          case atStart => exact ⟨0, z, by omega, by first | rfl | go_num, rfl, HSz, HT1⟩
          case round =>
            clear HT1 HSz z
            obtain ⟨q, v, hq, rfl, rfl, HS, HT⟩ := hrel
            by_cases hqn : q < n
            · have hqA : q < A.length := by have := HL.out; omega
              obtain ⟨ba, oa, rfl, hba, hca⟩ := HO2.out.at (show q < (ints A).length by simpa [ints] using hqA)
              have hvs : rl ≤ v.val.heap.size := by have := HS.out; omega
              have HbV : Hid (∀ w : Later v.val.heap.size v.val, Below g2 X w.val) := Lib.hid (fun w => HbL.out _ (v.below.trans (w.below.mono hvs)))
              have eA : (ints A).getD q 0 = ((A.getD q 0 : Nat) : Int) := by
                simp [ints, List.getD_eq_getElem?_getD, List.getElem?_eq_getElem hqA]
              have a0 : ∀ w : Later v.val.heap.size v.val, w.val.cell? ⟨ba, oa + q, none⟩ = some (.int .i64 ((A.getD q 0 : Nat) : Int)) := fun w => by
                rw [← eA]
                exact hca ⟨w.val, HbV.out w, by have := w.size; have := HS.out; omega⟩ q (by simpa [ints] using hqA)
              have hAC : A.getD q 0 < C := by have := HR.out.at_lt q hqA; omega
              have hms := HR.out.small q c (by have := HR.out.le; omega) hcC
              obtain ⟨gy, hgy, hgy1, hgy2⟩ := (HM2.out v.val (HbL.out _ v.below)).1.some' (by omega)
              subst hgy
              have hC0 : 0 < C := by omega
              have a1 : ∀ w : Later v.val.heap.size v.val, w.val.cell? ⟨go, 2, none⟩ = some (.slice (some ⟨gy, 0, none⟩) n gc') := fun w => (HM2.out w.val (HbV.out w)).2.1.cell rfl
              have a2 : ∀ w : Later v.val.heap.size v.val, w.val.cell? ⟨gy, q, none⟩ = some (.slice (some ⟨r' q, 0, none⟩) C (cp' q)) := fun w => by rw [(HM2.out w.val (HbV.out w)).1.tcell hqn, (HM2.out w.val (HbV.out w)).1.hdr hC0 q hqn]
              have a3 : ∀ w : Later v.val.heap.size v.val, w.val.cell? ⟨r' q, c, none⟩ = some (.int .i64 (M q c)) := fun w => (HM2.out w.val (HbV.out w)).1.cell hqn hcC
              have a4 : ∀ w : Later v.val.heap.size v.val, w.val.cell? ⟨g0, 0, none⟩ = some (.int .i64 p) := fun w => q0 _ (HbV.out w)
              obtain ⟨nn, hnn⟩ : ∃ nn, nn = ((p : Int) - M q c) % (p : Int) := ⟨_, rfl⟩
              have HPn : Hid (∀ w : Later v.val.heap.size v.val, ITab (w.val.setCell ⟨rl, A.getD q 0, none⟩ (.int .i64 nn)) rl C (krW p M A c (q + 1))) := Lib.hid (fun w => (HT.out.keep w.below).set (A.getD q 0) _ (fun j hj => by
                rw [krW_step HR.out hqA HNm.out, ← hnn]))
              have HVx : Hid (∀ w : Later v.val.heap.size v.val, ∃ x : Later rl W3, x.val = w.val.setCell ⟨rl, A.getD q 0, none⟩ (.int .i64 nn) ∧ rl < x.val.heap.size) := Lib.hid (fun w => ⟨(v.to w.val (w.below.mono hvs)).set ⟨rl, A.getD q 0, none⟩ (Nat.le_refl _) _, rfl, by have := w.size; have := HS.out; show rl < (w.val.setCell ⟨rl, A.getD q 0, none⟩ (.int .i64 nn)).heap.size; simp; omega⟩)
              have b1 : ∀ w : Later v.val.heap.size v.val, w.val.cell? ⟨rl, A.getD q 0, none⟩ = some (.int .i64 (krW p M A c q (A.getD q 0))) := fun w => (HT.out.keep w.below).cell hAC
              have b2 : ∀ w : Later v.val.heap.size v.val, w.val.frozen? ⟨rl, A.getD q 0, none⟩ = false := fun w => (HT.out.keep w.below).frozen _
              have w1 := IntWalk.i64_in ((p : Int) - M q c) (by omega)
              have tm : Int.tmod ((p : Int) - M q c) (p : Int) = nn := by rw [hnn]; exact Int.tmod_eq_emod_of_nonneg (by omega)
              generalize krW p M A c q (A.getD q 0) = old at *
              generalize M q c = mqc at *
              generalize A.getD q 0 = aq at *
              obtain ⟨z, hz⟩ : ∃ z : Later v.val.heap.size v.val, z.val = v.val := ⟨Later.self _, rfl⟩
              have a0z := a0 z
              rw [← hz]
              clear hz hnn hca eA HT
              go_wp2
              clear a0z
              refine wp_region_later_tail z 17 (by kernel_rfl) (by kernel_rfl) (fun z2 => ?_)
              simp only [List.take_succ_cons, List.take_zero, List.drop_succ_cons, List.drop_zero]
              repeat still_step
              refine wpStill_nil ?_
              go_wp2
              obtain ⟨xx, hxx, hxs⟩ := HVx.out z2
              go_roundw
              case rel => exact ⟨q + 1, xx, by omega, by go_num, hxx.symm, Lib.hid hxs, by rw [hxx]; exact Lib.hid (HPn.out z2)⟩
              case measure => simp [intOf]; omega
            · have hqe : q = n := by omega
              subst hqe
              have hvs : rl ≤ v.val.heap.size := by have := HS.out; omega
              have HMv : Hid (Mtx (g2 + 1) v.val ad gc k C hd r cp (fun i => krn p M A ((freeT A c).getD i 0))) := Lib.hid (HM3.out.keep_at v.below HAlt.out HMlt.out)
              have HBv : Hid (RowL v.val g2 24 [.int .i64 p, .int .i64 C, .slice ad k gc]) := Lib.hid (HB3.out.keep_at v.below (by omega))
              have HRO : Hid (RowO (g2 + 1) v.val C (some ⟨rl, 0, none⟩) rl C (krn p M A c)) := Lib.hid ⟨fun _ => rfl, fun _ => by
                have := HT.out
                rw [HL.out, krW_all] at this
                exact own_of_tab this hrl1 (by omega), fun h => by cases h⟩
              have hRN : 0 < C → (∀ i, i < k → r i ≠ rl) ∧ ∀ g, ad = some ⟨g, 0, none⟩ → rl ≠ g := fun hC => ⟨fun i hi e => by have := HMlt.out i hi hC; omega, fun g hg e => by have := HAlt.out g hg; omega⟩
              have HBp : Hid (∀ (pp : PushM (g2 + 1) v.val ad gc k C hd r cp (fun i => krn p M A ((freeT A c).getD i 0)) (some ⟨rl, 0, none⟩) rl C (krn p M A c)), RowL pp.val g2 24 [.int .i64 p, .int .i64 C, .slice ad k gc]) := Lib.hid (fun pp => HBv.out.keep_at pp.below (by omega))
              have c2 : v.val.cell? ⟨g2, 2, none⟩ = some (.slice ad k gc) := HBv.out.cell rfl
              have c3 : ∀ (pp : PushM (g2 + 1) v.val ad gc k C hd r cp (fun i => krn p M A ((freeT A c).getD i 0)) (some ⟨rl, 0, none⟩) rl C (krn p M A c)), pp.val.cell? ⟨g2, 2, none⟩ = some (.slice ad k gc) := fun pp => (HBp.out pp).cell rfl
              have c4 : ∀ (pp : PushM (g2 + 1) v.val ad gc k C hd r cp (fun i => krn p M A ((freeT A c).getD i 0)) (some ⟨rl, 0, none⟩) rl C (krn p M A c)), pp.val.frozen? ⟨g2, 2, none⟩ = false := fun pp => (HBp.out pp).fz 2
              have hk1 : k + 1 ≤ 4294967296 := by omega
              have hBv : g2 + 1 ≤ v.val.heap.size := by omega
              have HMO := HMv
              go_wp2_with (first | (at_builtin; refine wpList_pushM (B := g2 + 1) (w := v.val) HMO.out HRO.out hRN hBv (by rfl) _ _ (by rfl) (by rfl) (by rfl) hk1 ?_; intro pp) | fail)
              have HMp : Hid (Mtx (g2 + 1) (pp.val.setCell ⟨g2, 2, none⟩ (.slice (some ⟨pp.g, 0, none⟩) (k + 1) pp.gc')) (some ⟨pp.g, 0, none⟩) pp.gc' (k + 1) C (fun i => if i = k then some ⟨rl, 0, none⟩ else hd i) (fun i => if i = k then rl else r i) (fun i => if i = k then C else cp i) (fun i => krn p M A ((freeT A (c + 1)).getD i 0))) := Lib.hid ((pp.out.old (by omega) _).congr (fun i j hi hj => by
                rw [HF2.out, getD_snoc HLk.out i hi]
                by_cases e : i = k
                · rw [if_pos e, if_pos e]
                · rw [if_neg e, if_neg e]))
              have HBn : Hid (RowL (pp.val.setCell ⟨g2, 2, none⟩ (.slice (some ⟨pp.g, 0, none⟩) (k + 1) pp.gc')) g2 24 [.int .i64 p, .int .i64 C, .slice (some ⟨pp.g, 0, none⟩) ((k + 1 : Nat)) pp.gc']) := Lib.hid ((HBp.out pp).set 2 _)
              have HLn : Hid ((freeT A (c + 1)).length = k + 1) := Lib.hid (by rw [HF2.out, List.length_append, HLk.out]; rfl)
              obtain ⟨x, hx⟩ : ∃ x : Later g2 X, x.val = pp.val.setCell ⟨g2, 2, none⟩ (.slice (some ⟨pp.g, 0, none⟩) (k + 1) pp.gc') := ⟨⟨_, (HbL.out _ v.below).trans ((pp.below.mono (by omega)).trans (below_set (Nat.le_refl _) _)), by have := pp.below.size; simp; omega⟩, rfl⟩
              have HSn : Hid (g2 + 1 ≤ x.val.heap.size) := Lib.hid (by rw [hx]; have := pp.below.size; simp; omega)
              rw [← hx] at HMp HBn
              go_roundw
              case rel => exact ⟨c + 1, k + 1, x, _, _, _, _, _, by omega, by go_num, hx.symm, by omega, HLn, HSn, HBn, HMp⟩
              case measure => simp [intOf]; omega
      · have hce : c = C := by omega
        subst hce
        have hk6 : k ≤ 8 := by omega
        have KR : Hid (Calls Try.prog 39 #[.pointer (some ⟨g2, 0, none⟩)] v.val (RetP g2 X (RdRes g2 v.val.heap.size g2 k c p (fun i => krn p M A ((freeT A c).getD i 0))))) := Lib.hid (by
          refine c_reduced v g2 gc k c p ad hd r cp _ HB.out (HM.out.mono (by omega)) (Nat.le_refl _) (fun g e => ?_) (fun hC i hi => ?_) hp hk6 hC8 (fun i j hi hj => ?_)
          · rcases HM.out.form with ⟨e1, _⟩ | ⟨g', e1, h2, _⟩
            · rw [e] at e1; cases e1
            · rw [e] at e1; cases e1; omega
          · have := (HM.out.rlt hC hi).1; omega
          · refine krn_small hp7.1 HR.out (not_mem_getD (freeT_lt A c _ ?_).2) j
            rw [List.getD_eq_getElem?_getD, List.getElem?_eq_getElem (by rw [HLk.out]; exact hi)]
            simp)
        clear HB HM
        go_upto_region 23 with (first | (go_at_call 39; (with_reducible refine (KR.out).mono ?_); rintro e _ ⟨_, rfl, ⟨A2, M2, cc2, ada2, cpa2, ad2, gc2, hd2, r2, cp2, rfl, hO2, hR2, hcc2, hend2, hbx2, hmx2⟩, v4, rfl⟩) | fail)
        have HT := Lib.hid (HM2.out v4.val v4.below).2.2
        have F0 : v4.val.cell? ⟨g2, 0, none⟩ = some (.int .i64 p) := hbx2.cell rfl
        have F1 : v4.val.cell? ⟨g2, 1, none⟩ = some (.int .i64 c) := hbx2.cell rfl
        have F2 : v4.val.cell? ⟨g2, 2, none⟩ = some (.slice ad2 A2.length gc2) := hbx2.cell rfl
        have Z0 : v4.val.frozen? ⟨g0 + 1, 0, none⟩ = false := HT.out.fz 0
        have Z1 : ∀ x : Value, (v4.val.setCell ⟨g0 + 1, 0, none⟩ x).frozen? ⟨g0 + 1, 1, none⟩ = false := fun x => (HT.out.set 0 x).fz 1
        have Z2 : ∀ x y : Value, ((v4.val.setCell ⟨g0 + 1, 0, none⟩ x).setCell ⟨g0 + 1, 1, none⟩ y).frozen? ⟨g0 + 1, 2, none⟩ = false := fun x y => ((HT.out.set 0 x).set 1 y).fz 2
        have G0 : v4.val.cell? ⟨g0 + 1, 0, none⟩ = some (.int .i64 0) := HT.out.cell rfl
        have G1 : ∀ x : Value, (v4.val.setCell ⟨g0 + 1, 0, none⟩ x).cell? ⟨g0 + 1, 1, none⟩ = some (.int .i64 0) := fun x => (HT.out.set 0 x).cell rfl
        have G2 : ∀ x y : Value, ((v4.val.setCell ⟨g0 + 1, 0, none⟩ x).setCell ⟨g0 + 1, 1, none⟩ y).cell? ⟨g0 + 1, 2, none⟩ = some (.slice none 0 0) := fun x y => ((HT.out.set 0 x).set 1 y).cell rfl
        obtain ⟨vY, hvY⟩ := HL3.out v4.val v4.below
        have HX : Hid (∃ x : Later B W, x.val = (((v4.val.setCell ⟨g0 + 1, 0, none⟩ (.int .i64 p)).setCell ⟨g0 + 1, 1, none⟩ (.int .i64 c)).setCell ⟨g0 + 1, 2, none⟩ (.slice ad2 A2.length gc2))) := Lib.hid (by
          rw [← hvY]
          exact HV.out _ ((((vY.below.mono (by omega)).trans (below_set (Nat.le_refl _) (.int .i64 p))).trans (below_set (Nat.le_refl _) (.int .i64 c))).trans (below_set (i := 2) (Nat.le_refl _) (.slice ad2 A2.length gc2))))
        have HMf : Hid (Mtx g2 v4.val ad2 gc2 A2.length c hd2 r2 cp2 M2) := Lib.hid hmx2
        have HSt : Hid (RdSt p c (freeT A c).length (fun i => krn p M A ((freeT A c).getD i 0)) A2.length M2) := Lib.hid ⟨A2, cc2, rfl, by rw [HLk.out]; exact hR2, hcc2, by rw [HLk.out]; exact hend2⟩
        clear hO2 hR2 hcc2 hend2 hbx2 hmx2 KR HV hvY
        go_wp2
        refine bodyPost_ret (results_row (vs := [.int .i64 p, .int .i64 c, .slice ad2 A2.length gc2]) rfl _ _ (g0 + 1) rfl (((HT.out.set 0 _).set 1 _).set 2 _) Try.underlying24 (by kernel_rfl)) rfl ?_
        refine RetP.of HX.out ⟨A, M, cc, HR.out, hcc, ?_, .inr ⟨?_, A2.length, M2, HSt.out, ad2, gc2, hd2, r2, cp2, rfl, (((HMf.out.old (by omega) _).old (by omega) _).old (by omega) _).mono (by omega)⟩⟩
        · have := HE.out; rw [HL.out] at this; exact this
        · have := HL.out; omega

set_option maxRecDepth 100000 in
set_option maxHeartbeats 8000000 in
theorem c_fieldKernel_no {B : Nat} {W : World} (u : Later B W) (p C : Int) (rows : Lls) (a : Option Addr) (cap : Nat) (h : RowsI B W a rows) (hl : rows.length ≤ 17592186044416) (hrl : ∀ i, i < rows.length → (rows.getD i []).length ≤ 17592186044416) (hm : ¬ isMatrix p C rows) :
    Calls Try.prog 18 #[.agg #[.int .i64 p, .int .i64 C, .slice a rows.length cap]] u.val (Ret B W (.tuple #[.agg #[.int .i64 0, .int .i64 0, .slice none 0 0], .int .i64 1])) := by
  have hB := u.size
  have k1 : (u.val.alloc (.cells #[.int .i64 p, .int .i64 C, .slice a rows.length cap] 24)).heap.size = u.val.heap.size + 1 := by simp
  have TX : Hid (RowL ((u.val.alloc (.cells #[.int .i64 p, .int .i64 C, .slice a rows.length cap] 24)).alloc (.cells #[.int .i64 0, .int .i64 0, .slice none 0 0] 24)) u.val.heap.size 24 [.int .i64 p, .int .i64 C, .slice a rows.length cap]) := Lib.hid ((RowL.new u.val 24 _).keep ((Below.refl _ _).alloc (Nat.le_refl _) _))
  have TZ : Hid (RowL ((u.val.alloc (.cells #[.int .i64 p, .int .i64 C, .slice a rows.length cap] 24)).alloc (.cells #[.int .i64 0, .int .i64 0, .slice none 0 0] 24)) (u.val.heap.size + 1) 24 [.int .i64 0, .int .i64 0, .slice none 0 0]) := Lib.hid (by
    have h := RowL.new (u.val.alloc (.cells #[.int .i64 p, .int .i64 C, .slice a rows.length cap] 24)) 24 [.int .i64 0, .int .i64 0, .slice none 0 0]
    rwa [k1] at h)
  have HZ : Hid (((u.val.alloc (.cells #[.int .i64 p, .int .i64 C, .slice a rows.length cap] 24)).alloc (.cells #[.int .i64 0, .int .i64 0, .slice none 0 0] 24)).heap.size = u.val.heap.size + 1 + 1) := Lib.hid (by simp)
  have HV : Hid (∀ w : World, Below (u.val.heap.size + 1) ((u.val.alloc (.cells #[.int .i64 p, .int .i64 C, .slice a rows.length cap] 24)).alloc (.cells #[.int .i64 0, .int .i64 0, .slice none 0 0] 24)) w → ∃ x : Later B W, x.val = w) := Lib.hid (fun w hb => ⟨⟨w, ((u.alloc _).alloc _).below.trans (hb.mono (by omega)), by have := hb.size; simp at this; omega⟩, rfl⟩)
  have HXs : Hid (RowsI ((u.val.alloc (.cells #[.int .i64 p, .int .i64 C, .slice a rows.length cap] 24)).alloc (.cells #[.int .i64 0, .int .i64 0, .slice none 0 0] 24)).heap.size ((u.val.alloc (.cells #[.int .i64 p, .int .i64 C, .slice a rows.length cap] 24)).alloc (.cells #[.int .i64 0, .int .i64 0, .slice none 0 0] 24)) a rows) := Lib.hid (h.to ((u.alloc _).alloc _))
  have HRl := Lib.hid hrl
  clear h k1 hrl
  go_enter Try.func18, Try.ntmps18
  go_upto_region 1 with fail
  generalize ((u.val.alloc (.cells #[.int .i64 p, .int .i64 C, .slice a rows.length cap] 24)).alloc (.cells #[.int .i64 0, .int .i64 0, .slice none 0 0] 24)) = Y at *
  generalize u.val.heap.size = g0 at *
  clear u
  have x0 : ∀ v : Later Y.heap.size Y, v.val.cell? ⟨g0, 0, none⟩ = some (.int .i64 p) := fun v => (TX.out.keep v.below).cell rfl
  have x1 : ∀ v : Later Y.heap.size Y, v.val.cell? ⟨g0, 1, none⟩ = some (.int .i64 C) := fun v => (TX.out.keep v.below).cell rfl
  have x2 : ∀ v : Later Y.heap.size Y, v.val.cell? ⟨g0, 2, none⟩ = some (.slice a rows.length cap) := fun v => (TX.out.keep v.below).cell rfl
  obtain ⟨z, hz⟩ : ∃ z : Later Y.heap.size Y, z.val = Y := ⟨Later.self _, rfl⟩
  have KX : Hid (Calls Try.prog 32 #[.agg #[.int .i64 p, .int .i64 C, .slice a rows.length cap]] z.val (Ret Y.heap.size Y (.int .i64 1))) := Lib.hid (by
    have := c_checkMatrix z p C rows a cap HXs.out hl HRl.out
    rwa [decide_eq_false hm] at this)
  rw [← hz]
  clear hz hm
  have d0 := x0 z
  have d1 := x1 z
  have d2 := x2 z
  go_upto_region 2 with (first | (go_at_call 32; (with_reducible refine (KX.out).mono ?_); rintro e _ ⟨rfl, v3, rfl⟩) | fail)
  clear d0 d1 d2 KX x0 x1 x2
  have HT := Lib.hid (TZ.out.keep v3.below)
  have Z0 : v3.val.frozen? ⟨g0 + 1, 0, none⟩ = false := HT.out.fz 0
  have Z1 : ∀ x : Value, (v3.val.setCell ⟨g0 + 1, 0, none⟩ x).frozen? ⟨g0 + 1, 1, none⟩ = false := fun x => (HT.out.set 0 x).fz 1
  have Z2 : ∀ x y : Value, ((v3.val.setCell ⟨g0 + 1, 0, none⟩ x).setCell ⟨g0 + 1, 1, none⟩ y).frozen? ⟨g0 + 1, 2, none⟩ = false := fun x y => ((HT.out.set 0 x).set 1 y).fz 2
  have G0 : v3.val.cell? ⟨g0 + 1, 0, none⟩ = some (.int .i64 0) := HT.out.cell rfl
  have G1 : ∀ x : Value, (v3.val.setCell ⟨g0 + 1, 0, none⟩ x).cell? ⟨g0 + 1, 1, none⟩ = some (.int .i64 0) := fun x => (HT.out.set 0 x).cell rfl
  have G2 : ∀ x y : Value, ((v3.val.setCell ⟨g0 + 1, 0, none⟩ x).setCell ⟨g0 + 1, 1, none⟩ y).cell? ⟨g0 + 1, 2, none⟩ = some (.slice none 0 0) := fun x y => ((HT.out.set 0 x).set 1 y).cell rfl
  have hYs := HZ.out
  have HX : Hid (∃ x : Later B W, x.val = (((v3.val.setCell ⟨g0 + 1, 0, none⟩ (.int .i64 0)).setCell ⟨g0 + 1, 1, none⟩ (.int .i64 0)).setCell ⟨g0 + 1, 2, none⟩ (.slice none 0 0))) := Lib.hid (HV.out _ ((((v3.below.mono (by omega)).trans (below_set (Nat.le_refl _) (.int .i64 0))).trans (below_set (Nat.le_refl _) (.int .i64 0))).trans (below_set (i := 2) (Nat.le_refl _) (.slice none 0 0))))
  clear TX TZ HV HXs HRl hl
  go_wp2
  refine bodyPost_ret (results_row (vs := [.int .i64 0, .int .i64 0, .slice none 0 0]) rfl _ _ (g0 + 1) rfl (((HT.out.set 0 _).set 1 _).set 2 _) Try.underlying24 (by kernel_rfl)) rfl ?_
  exact Ret.of HX.out rfl

end Go.Proofs.Ytffnpokceomncaa
