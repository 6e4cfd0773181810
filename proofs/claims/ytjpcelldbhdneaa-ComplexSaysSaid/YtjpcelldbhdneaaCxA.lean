
/-
  complex.Check, complex.faces; rotaref.IsFacets, FacesOf.
-/
import Derived.Test.YtjpcelldbhdneaaCxPl
import Derived.Test.YtjpcelldbhdneaaPkA
import Derived.Test.YtjpcelldbhdneaaMostR
namespace Go.Proofs.Ytjpcelldbhdneaa
open Go.RowKit
set_option linter.unusedVariables false

theorem cxE_ok {L : List Nat} (hne : L ≠ []) (h : ∀ i, i < L.length → ∀ j, j < L.length → ¬ (L.getD i 0 ≠ L.getD j 0 ∧ L.getD i 0 &&& L.getD j 0 = L.getD i 0)) : cxE L = 0 := by
  unfold cxE
  rw [if_neg hne, if_pos]
  unfold topAll
  rw [List.all_eq_true]
  intro s hs
  rw [topB_iff]
  intro x hx hsub
  obtain ⟨i, hi, e1⟩ := mem_getD hs
  obtain ⟨j, hj, e2⟩ := mem_getD hx
  have := h i hi j hj
  rw [e1, e2] at this
  exact Classical.byContradiction fun c => this ⟨fun e => c e.symm, and_eq_iff.2 hsub⟩
theorem cxE_no {L : List Nat} {i j : Nat} (hi : i < L.length) (hj : j < L.length) (h1 : L.getD i 0 ≠ L.getD j 0) (h2 : L.getD i 0 &&& L.getD j 0 = L.getD i 0) : cxE L = 3 := by
  have hne : L ≠ [] := by rintro rfl; simp at hi
  unfold cxE
  rw [if_neg hne, if_neg]
  intro h
  have := (List.all_eq_true.1 h) _ (getD_memC hi)
  exact h1 (topB_iff.1 this _ (getD_memC hj) (and_eq_iff.1 h2)).symm

theorem c_fam_ok {B : Nat} {W : World} (u : Later B W) (n : Int) (l : List Int) (a : Option Addr) (cap : Nat) (h : IntsAt B W a l) (hlen : l.length ≤ 4611686018427387904) (hf : isFam n l) :
    Calls Try.prog 138 #[.int .i64 n, .slice a l.length cap] u.val (Ret B W (.int .i64 0)) := by
  have := c_family u n l a cap h (by omega)
  rwa [show errno (decide (isFam n l)) 1 = 0 by simp [errno, hf]] at this
theorem c_fam_no {B : Nat} {W : World} (u : Later B W) (n : Int) (l : List Int) (a : Option Addr) (cap : Nat) (h : IntsAt B W a l) (hlen : l.length ≤ 4611686018427387904) (hf : ¬ isFam n l) :
    Calls Try.prog 138 #[.int .i64 n, .slice a l.length cap] u.val (Ret B W (.int .i64 1)) := by
  have := c_family u n l a cap h (by omega)
  rwa [show errno (decide (isFam n l)) 1 = 1 by simp [errno, hf]] at this

set_option maxRecDepth 100000 in
set_option maxHeartbeats 4000000 in
theorem c_cxCheck_no {B : Nat} {W : World} (u : Later B W) (n : Int) (l : List Int) (hlen : l.length ≤ 4611686018427387904) (a : Option Addr) (cap : Nat) (h : IntsAt B W a l) (hf : ¬ isFam n l) :
    Calls Try.prog 115 #[.int .i64 n, .slice a l.length cap] u.val (Ret B W (.int .i64 1)) := by
  have KF := Lib.hid (c_fam_no u n l a cap h hlen hf)
  clear h hf
  go_enter Try.func115, Try.ntmps115
  go_wp2_with (first | (go_at_call 138; (with_reducible refine (KF.out).mono ?_); rintro e _ ⟨rfl, v1, rfl⟩))
  go_ret
  exact Ret.mk v1 rfl

set_option maxRecDepth 100000 in
set_option maxHeartbeats 4000000 in
theorem c_cxCheck {B : Nat} {W : World} (u : Later B W) (m : Nat) (L : List Nat) (h256 : ∀ b, b ∈ L → b < 256) (hlen : L.length ≤ 1048576) (a : Option Addr) (cap : Nat) (h : IntsAt B W a (ints L)) (hf : isFam m (ints L)) :
    Calls Try.prog 115 #[.int .i64 m, .slice a (ints L).length cap] u.val (Ret B W (.int .i64 (cxE L))) := by
  have HI := Lib.hid h
  have H8 : Hid (∀ i, i < L.length → L.getD i 0 < 256) := Lib.hid (fun i hi => h256 _ (getD_memC hi))
  have KF := Lib.hid (c_fam_ok u m (ints L) a cap h (by rw [ints_len]; omega) hf)
  clear h hf h256
  have hil : (ints L).length = L.length := ints_len L
  rw [hil] at KF ⊢
  by_cases hl : L = []
  · have hl0 : L.length = 0 := by rw [hl]; rfl
    have hE : cxE L = 1 := by rw [hl]; rfl
    rw [hl0] at KF ⊢
    rw [hE]
    clear hil HI H8 hl hl0 hE hlen
    go_enter Try.func115, Try.ntmps115
    go_wp2_with (first | (go_at_call 138; (with_reducible refine (KF.out).mono ?_); rintro e _ ⟨rfl, v1, rfl⟩))
    go_ret
    exact Ret.mk v1 rfl
  have hpos : 0 < L.length := List.length_pos_iff.2 hl
  have d0 : ((L.length : Int) == 0) = false := beq_eq_false_iff_ne.2 (by omega)
  have HT := Lib.hid (@cxE_ok L hl)
  have HN := Lib.hid (fun (i j : Nat) => @cxE_no L i j)
  clear hl
  generalize cxE L = r at *
  have HLl := Lib.hid hil
  clear hil
  go_enter Try.func115, Try.ntmps115
  go_wp2_with (first | (go_at_call 138; (with_reducible refine (KF.out).mono ?_); rintro e _ ⟨rfl, v1, rfl⟩))
  clear KF u d0
  go_loopw [21] (fun i wr => ∃ (k : Nat) (v : Later B W), k ≤ L.length ∧ i = .int .i64 k ∧ wr = v.val ∧ Hid (∀ i, i < k → ∀ j, j < L.length → ¬ (L.getD i 0 ≠ L.getD j 0 ∧ L.getD i 0 &&& L.getD j 0 = L.getD i 0))) (fun i _ => L.length - (intOf i).toNat)
  case atStart => exact ⟨0, v1, by omega, rfl, rfl, Lib.hid (fun i hi => by omega)⟩
  case round =>
    clear v1
    obtain ⟨k, v, hk, rfl, rfl, hI⟩ := hrel
    by_cases hlt : k < L.length
    · obtain ⟨b, off, rfl, hbB, hcell⟩ := HI.out.at (k := k) (by rw [ints_len]; exact hlt)
      have HC : Hid (∀ (v : Later B W) (j : Nat), j < L.length → v.val.cell? ⟨b, off + j, none⟩ = some (.int .i64 ((L.getD j 0 : Nat) : Int))) := Lib.hid (fun v j hj => by rw [← ints_getD]; exact hcell v j (by rw [ints_len]; exact hj))
      have c0 := HC.out v k hlt
      have h8 := H8.out k hlt
      have HN1 : Hid (∀ j, j < L.length → L.getD k 0 ≠ L.getD j 0 → L.getD k 0 &&& L.getD j 0 = L.getD k 0 → r = 3) := Lib.hid (fun j hj => HN.out k j hlt hj)
      have HS : Hid ((∀ j, j < L.length → ¬ (L.getD k 0 ≠ L.getD j 0 ∧ L.getD k 0 &&& L.getD j 0 = L.getD k 0)) → ∀ i, i < k + 1 → ∀ j, j < L.length → ¬ (L.getD i 0 ≠ L.getD j 0 ∧ L.getD i 0 &&& L.getD j 0 = L.getD i 0)) := Lib.hid (fun h i hi => by
        by_cases e : i = k
        · subst e; exact h
        · exact hI.out i (by omega))
      clear hcell hI
      generalize L.getD k 0 = s at *
      go_wp2
      clear c0
      go_loopw [27] (fun i wr => ∃ (q : Nat) (v : Later B W), q ≤ L.length ∧ i = .int .i64 q ∧ wr = v.val ∧ Hid (∀ j, j < q → ¬ (s ≠ L.getD j 0 ∧ s &&& L.getD j 0 = s))) (fun i _ => L.length - (intOf i).toNat)
      case atStart => exact ⟨0, v, by omega, rfl, rfl, Lib.hid (fun i hi => by omega)⟩
      case round =>
        clear v
        obtain ⟨q, v, hq, rfl, rfl, hJ⟩ := hrel
        by_cases hql : q < L.length
        · have c1 := HC.out v q hql
          have h8q := H8.out q hql
          have o1 := i64_and s (L.getD q 0) (by omega) (by omega)
          have HN2 : Hid (s ≠ L.getD q 0 → s &&& L.getD q 0 = s → r = 3) := Lib.hid (HN1.out q hql)
          have HS2 : Hid (¬ (s ≠ L.getD q 0 ∧ s &&& L.getD q 0 = s) → ∀ j, j < q + 1 → ¬ (s ≠ L.getD j 0 ∧ s &&& L.getD j 0 = s)) := Lib.hid (fun h i hi => by
            by_cases e : i = q
            · subst e; exact h
            · exact hJ.out i (by omega))
          clear hJ
          generalize L.getD q 0 = t at *
          generalize s &&& t = z at *
          rcases ieq (s : Int) t with ⟨g1, d1, d2⟩ | ⟨g1, d1, d2⟩
          · have HJ := Lib.hid (HS2.out (fun h => h.1 (by omega)))
            clear HN2 HS2 g1
            go_wp2
            go_roundw
            case rel => exact ⟨q+1, v, by omega, by go_num, rfl, HJ⟩
            case measure => simp [intOf]; omega
          · rcases ieq (z : Int) s with ⟨g2, d3, d4⟩ | ⟨g2, d3, d4⟩
            · have hr := HN2.out (by omega) (by omega)
              subst hr
              clear HN2 HS2 g1 g2
              go_wp2
              go_ret
              exact Ret.mk v rfl
            · have HJ := Lib.hid (HS2.out (fun h => g2 (by omega)))
              clear HN2 HS2 g1 g2
              go_wp2
              go_roundw
              case rel => exact ⟨q+1, v, by omega, by go_num, rfl, HJ⟩
              case measure => simp [intOf]; omega
        · have HK := Lib.hid (HS.out (fun j hj => hJ.out j (by omega)))
          go_wp2
          go_roundw
          case rel => exact ⟨k+1, v, by omega, by go_num, rfl, HK⟩
          case measure => simp [intOf]; omega
    · have hr := HT.out (fun i hi => hI.out i (by omega))
      subst hr
      go_wp2
      go_ret
      exact Ret.mk v rfl

set_option maxRecDepth 100000 in
set_option maxHeartbeats 4000000 in
theorem c_cxFaceTell {B : Nat} {W : World} (u : Later B W) (t s g : Nat) (ht : t < 256) (hs : s < 256) (hg : g < B) (hc : W.cell? ⟨g, 0, none⟩ = some (.int .i64 s)) :
    Calls Try.prog 245 #[.int .i64 t, .pointer (some ⟨g, 0, none⟩)] u.val (Ret B W (.bool (decide (t &&& s = s)))) := by
  have q0 : u.val.cell? ⟨g, 0, none⟩ = some (.int .i64 s) := by rw [u.cell hg, hc]
  have o1 := i64_and t s (by omega) (by omega)
  have HR : Hid ((((t &&& s : Nat) : Int) == (s : Int)) = decide (t &&& s = s)) := Lib.hid (by
    rw [Bool.eq_iff_iff]; simp; omega)
  clear hc
  generalize decide (t &&& s = s) = r at *
  generalize t &&& s = z at *
  go_enter Try.func245, Try.ntmps245
  go_wp2
  go_ret
  exact Ret.mk u (vbool HR.out)

set_option maxRecDepth 100000 in
set_option maxHeartbeats 8000000 in
theorem c_cxFaces0 {B : Nat} {W : World} (u : Later B W) (m : Nat) (hm : m ≤ 8) (L : List Nat) (h256 : ∀ b, b ∈ L → b < 256) (hlen : L.length ≤ 1048576) (a : Option Addr) (cap : Nat) (h : IntsAt B W a (ints L)) :
    Calls Try.prog 207 #[.int .i64 m, .slice a (ints L).length cap] u.val (RetOwn B W (ints (those m (freeB L)))) := by
  have hb := bit_le m hm
  have bc := bit_cast m
  have w0 : IntKind.i64.wrap (bit m : Int) = (bit m : Int) := IntWalk.i64_in _ (by omega)
  have HI := Lib.hid h
  have H8 := Lib.hid h256
  clear h h256
  have hil : (ints L).length = L.length := ints_len L
  rw [hil]
  go_enter Try.func207, Try.ntmps207
  go_wp2
  go_loopw [5, 9] (fun o i wr => ∃ (k : Nat) (ad : Option Addr) (cp : Nat) (v : Later B W), k ≤ bit m ∧ o = .slice ad (ints (thoseTo (freeB L) k)).length cp ∧ i = .int .i64 k ∧ wr = v.val ∧ Hid (Own B v.val ad cp (ints (thoseTo (freeB L) k)))) (fun _ i _ => bit m - (intOf i).toNat)
  case atStart => exact ⟨0, none, 0, u, by omega, rfl, rfl, rfl, Own.nil _ _⟩
  case round =>
    clear u
    obtain ⟨s, ad, cp, v, hk, rfl, rfl, rfl, HO⟩ := hrel
    by_cases hlt : s < bit m
    · have h8 : s < 256 := by omega
      have HS := Lib.hid (thoseTo_step (freeB L) s)
      have HLn : Hid ((ints (thoseTo (freeB L) s)).length ≤ 1048576) := Lib.hid (by rw [ints_len]; have := thoseTo_len (freeB L) s; omega)
      go_upto_region 5 with fail
      have T0 : RowL (v.val.alloc (.cells #[.int .i64 (s : Int)] 3)) v.val.heap.size 3 [.int .i64 (s : Int)] := RowL.new _ _ _
      have qb : ∀ w : Later (v.val.alloc (.cells #[.int .i64 (s : Int)] 3)).heap.size (v.val.alloc (.cells #[.int .i64 (s : Int)] 3)), w.val.cell? ⟨v.val.heap.size, 0, none⟩ = some (.int .i64 (s : Int)) := fun w => (T0.keep w.below).cell rfl
      have hgz : v.val.heap.size < (v.val.alloc (.cells #[.int .i64 (s : Int)] 3)).heap.size := by simp
      have KC : Hid (Calls Try.prog 145 #[.slice a (ints L).length cap, .func (.func 245) #[] #[.pointer (some ⟨v.val.heap.size, 0, none⟩)]] (v.val.alloc (.cells #[.int .i64 (s : Int)] 3)) (Ret (v.val.alloc (.cells #[.int .i64 (s : Int)] 3)).heap.size (v.val.alloc (.cells #[.int .i64 (s : Int)] 3)) (.bool (freeB L s)))) := Lib.hid (by
        rw [← face_any]
        exact c_contF (Later.self (v.val.alloc (.cells #[.int .i64 (s : Int)] 3))) L hlen _ cap (HI.out.to (v.alloc _)) 245 #[.pointer (some ⟨v.val.heap.size, 0, none⟩)] (fun t => decide (t &&& s = s)) (fun args w => by kernel_rfl) (fun x t ht => c_cxFaceTell x t s v.val.heap.size (H8.out t ht) h8 hgz (qb (Later.self (v.val.alloc (.cells #[.int .i64 (s : Int)] 3))))))
      rw [hil] at KC
      have HV : Hid (∀ y : Later (v.val.alloc (.cells #[.int .i64 (s : Int)] 3)).heap.size (v.val.alloc (.cells #[.int .i64 (s : Int)] 3)), ∃ w : Later B W, w.val = y.val) := Lib.hid (fun y => ⟨(v.alloc _).up y, rfl⟩)
      have HO1 : Hid (Own B (v.val.alloc (.cells #[.int .i64 (s : Int)] 3)) ad cp (ints (thoseTo (freeB L) s))) := Lib.hid (HO.out.keep (((Later.self v.val).alloc (.cells #[.int .i64 (s : Int)] 3)).below))
      clear HO T0 hgz
      generalize thoseTo (freeB L) s = T at *
      generalize freeB L s = an at *
      generalize v.val.heap.size = gs at *
      generalize (v.val.alloc (.cells #[.int .i64 (s : Int)] 3)) = Z at *
      rcases btf an with g1 | g1
      · subst g1
        have HN := Lib.hid (show thoseTo (freeB L) (s + 1) = T ++ [s] by rw [HS.out, if_pos rfl])
        clear HS
        go_upto_region 6 with (first | (go_at_call 145; (with_reducible refine (KC.out).mono ?_); rintro e _ ⟨rfl, v1, rfl⟩))
        have qb1 := qb v1
        have HO2 := Lib.hid (HO1.out.keep v1.below)
        obtain ⟨y, hy⟩ := HV.out v1
        rw [← hy] at HO2 qb1 ⊢
        clear hy HO1 HV KC v1 qb
        go_wp2_with (first | (at_builtin; refine wpList_push (B := B) (W := W) (w := y.val) y.below y.size rfl _ _ rfl (ints T) ad cp (s : Int) rfl HO2.out rfl (by have := HLn.out; omega) ?_; intro u2 ad2 cp2 hown))
        go_roundw
        case rel => exact ⟨s+1, ad2, cp2, u2, by omega, by rw [HN.out, ints_snoc]; simp, by go_num, rfl, by rw [HN.out, ints_snoc]; exact hown⟩
        case measure => simp [intOf]; omega
      · subst g1
        have HN := Lib.hid (show thoseTo (freeB L) (s + 1) = T by rw [HS.out, if_neg (by decide)])
        clear HS
        go_wp2_with (first | (go_at_call 145; (with_reducible refine (KC.out).mono ?_); rintro e _ ⟨rfl, v1, rfl⟩))
        have HO2 := Lib.hid (HO1.out.keep v1.below)
        obtain ⟨y, hy⟩ := HV.out v1
        rw [← hy] at HO2 ⊢
        go_roundw
        case rel => exact ⟨s+1, ad, cp, y, by omega, by rw [HN.out], by go_num, rfl, by rw [HN.out]; exact HO2.out⟩
        case measure => simp [intOf]; omega
    · have hke : s = bit m := by omega
      subst hke
      go_wp2
      go_ret
      exact RetP.of ⟨v, rfl⟩ ⟨ad, cp, rfl, HO.out⟩

set_option maxRecDepth 100000 in
set_option maxHeartbeats 4000000 in
theorem c_isFacets_no {B : Nat} {W : World} (u : Later B W) (n : Int) (l : List Int) (hlen : l.length ≤ 4611686018427387904) (a : Option Addr) (cap : Nat) (h : IntsAt B W a l) (hf : ¬ isFam n l) :
    Calls Try.prog 103 #[.int .i64 n, .slice a l.length cap] u.val (Ret B W (.int .i64 1)) := by
  have KF := Lib.hid (dcall_f (c_isFamily u n l a cap h (by omega)) hf)
  clear h hf
  go_enter Try.func103, Try.ntmps103
  go_wp2_with (first | (go_at_call 31; (with_reducible refine (KF.out).mono ?_); rintro e _ ⟨rfl, v1, rfl⟩))
  go_ret
  exact Ret.mk v1 rfl

set_option maxRecDepth 100000 in
set_option maxHeartbeats 4000000 in
theorem c_isFacets {B : Nat} {W : World} (u : Later B W) (m : Nat) (hm : m ≤ 8) (L : List Nat) (hL : ∀ b, b ∈ L → b < bit m) (hpw : L.Pairwise (· < ·)) (hlen : L.length ≤ 1048576) (a : Option Addr) (cap : Nat) (h : IntsAt B W a (ints L)) (hf : isFam m (ints L)) :
    Calls Try.prog 103 #[.int .i64 m, .slice a (ints L).length cap] u.val (Ret B W (.int .i64 (cxE L))) := by
  have hb := bit_le m hm
  have KF := Lib.hid (dcall_t (c_isFamily u m (ints L) a cap h (by rw [ints_len]; omega)) hf)
  have KM := Lib.hid (fun v : Later B W => c_mostR v m hm L (fun b hb' => by have := hL b hb'; omega) (by omega) a cap h)
  have HT := Lib.hid (top_len hpw hL)
  have hil : (ints L).length = L.length := ints_len L
  have hil2 : (ints (those m (mostB L))).length = (those m (mostB L)).length := ints_len _
  clear h hf
  by_cases hl : L = []
  · have hl0 : L.length = 0 := by rw [hl]; rfl
    have hE : cxE L = 1 := by rw [hl]; rfl
    rw [hil, hl0] at KF ⊢
    rw [hE]
    clear hil hil2 KM HT hl hl0 hE hlen hL hpw
    go_enter Try.func103, Try.ntmps103
    go_wp2_with (first | (go_at_call 31; (with_reducible refine (KF.out).mono ?_); rintro e _ ⟨rfl, v1, rfl⟩))
    go_ret
    exact Ret.mk v1 rfl
  have hpos : 0 < L.length := List.length_pos_iff.2 hl
  have hE : Hid (cxE L = if topAll L = true then 0 else 3) := Lib.hid (by unfold cxE; rw [if_neg hl])
  rw [hil] at KF KM ⊢
  have d0 : ((L.length : Int) == 0) = false := beq_eq_false_iff_ne.2 (by omega)
  clear hL hpw hil hl
  generalize ints (those m (mostB L)) = X at *
  generalize (those m (mostB L)).length = y at *
  rcases ieq (y : Int) L.length with ⟨g1, d1, d2⟩ | ⟨g1, d1, d2⟩
  · have hr : Hid (cxE L = 0) := Lib.hid (by rw [hE.out, if_pos (HT.out.1 (by omega))])
    clear hE HT g1
    rw [hr.out]
    go_enter Try.func103, Try.ntmps103
    go_wp2_with (first | (go_at_call 31; (with_reducible refine (KF.out).mono ?_); rintro e _ ⟨rfl, v1, rfl⟩) | (go_at_call 96; (with_reducible refine (KM.out _).mono ?_); rintro e _ ⟨_, rfl, ⟨ad, cp, rfl, _, _⟩, v2, rfl⟩))
    rw [hil2] at *
    go_wp2
    go_ret
    exact Ret.mk v2 rfl
  · have hr : Hid (cxE L = 3) := Lib.hid (by rw [hE.out, if_neg (fun h => g1 (by have := HT.out.2 h; omega))])
    clear hE HT g1
    rw [hr.out]
    go_enter Try.func103, Try.ntmps103
    go_wp2_with (first | (go_at_call 31; (with_reducible refine (KF.out).mono ?_); rintro e _ ⟨rfl, v1, rfl⟩) | (go_at_call 96; (with_reducible refine (KM.out _).mono ?_); rintro e _ ⟨_, rfl, ⟨ad, cp, rfl, _, _⟩, v2, rfl⟩))
    rw [hil2] at *
    go_wp2
    go_ret
    exact Ret.mk v2 rfl

set_option maxRecDepth 100000 in
set_option maxHeartbeats 4000000 in
theorem c_facesTell {B : Nat} {W : World} (u : Later B W) (L : List Nat) (h256 : ∀ b, b ∈ L → b < 256) (hlen : L.length ≤ 4611686018427387904) (cap g : Nat) (a : Option Addr) (s : Nat) (hs : s < 256) (h : IntsAt B W a (ints L)) (hg : g < B) (hbox : W.cell? ⟨g, 0, none⟩ = some (.slice a (ints L).length cap)) :
    Calls Try.prog 203 #[.int .i64 s, .pointer (some ⟨g, 0, none⟩)] u.val (Ret B W (.bool (freeB L s))) := by
  have q1 : ∀ u : Later B W, u.val.cell? ⟨g, 0, none⟩ = some (.slice a L.length cap) := fun u => by rw [u.cell hg, hbox, ints_len]
  have HI := Lib.hid h
  have HF : Hid (freeB L s = true ↔ ∃ i, i < L.length ∧ decide (s ||| L.getD i 0 = L.getD i 0) = true) := Lib.hid any_getD
  have H8 : Hid (∀ i, i < L.length → L.getD i 0 < 256) := Lib.hid (fun i hi => h256 _ (by simp [hi]))
  clear h hbox h256
  generalize freeB L s = r at *
  go_enter Try.func203, Try.ntmps203
  go_wp2
  go_loopw [4] (fun i wr => ∃ (k : Nat) (v : Later B W), k ≤ L.length ∧ i = .int .i64 k ∧ wr = v.val ∧ Hid (∀ i, i < k → ¬ s ||| L.getD i 0 = L.getD i 0)) (fun i _ => L.length - (intOf i).toNat)
  case atStart => exact ⟨0, u, by omega, rfl, rfl, Lib.hid (fun i hi => by omega)⟩
  case round =>
    clear u
    obtain ⟨k, v, hk, rfl, rfl, hf⟩ := hrel
    have q1' := q1 v
    by_cases hlt : k < L.length
    · obtain ⟨b, off, rfl, hbB, hcell⟩ := HI.out.at (k := k) (by rw [ints_len]; exact hlt)
      have c0 : v.val.cell? ⟨b, off + k, none⟩ = some (.int .i64 ((L.getD k 0 : Nat) : Int)) := by rw [← ints_getD]; exact hcell v k (by rw [ints_len]; exact hlt)
      have h8 := H8.out k hlt
      have KW := Lib.hid (c_within v s (L.getD k 0) (by omega) (by omega))
      have HX : Hid (s ||| L.getD k 0 = L.getD k 0 → r = true) := Lib.hid (fun h1 => HF.out.2 ⟨k, hlt, decide_eq_true h1⟩)
      have HY : Hid (¬ s ||| L.getD k 0 = L.getD k 0 → ∀ i, i < k + 1 → ¬ s ||| L.getD i 0 = L.getD i 0) := Lib.hid (fun h i hi => by
        by_cases c : i = k
        · subst c; exact h
        · exact hf.out i (by omega))
      clear hcell hf
      generalize L.getD k 0 = x at *
      by_cases hz : s ||| x = x
      · have hr := HX.out hz
        subst hr
        have K1 := Lib.hid (dcall_t KW.out hz)
        clear HX HY hz KW
        go_wp2_with (first | (go_at_call 107; (with_reducible refine (K1.out).mono ?_); rintro e _ ⟨rfl, v1, rfl⟩))
        go_ret
        exact Ret.mk v1 rfl
      · have HN := Lib.hid (HY.out hz)
        have K1 := Lib.hid (dcall_f KW.out hz)
        clear HX HY hz KW
        go_wp2_with (first | (go_at_call 107; (with_reducible refine (K1.out).mono ?_); rintro e _ ⟨rfl, v1, rfl⟩))
        go_roundw
        case rel => exact ⟨k+1, v1, by omega, by go_num, rfl, HN⟩
        case measure => simp [intOf]; omega
    · have hr : r = false := by
        cases c : r
        · rfl
        · obtain ⟨i, hi, h⟩ := HF.out.1 c
          exact absurd (of_decide_eq_true h) (hf.out i (by omega))
      subst hr
      go_wp2
      go_ret
      exact Ret.mk v rfl

set_option maxRecDepth 100000 in
set_option maxHeartbeats 4000000 in
theorem c_facesOf {B : Nat} {W : World} (u : Later B W) (m : Nat) (hm : m ≤ 8) (L : List Nat) (h256 : ∀ b, b ∈ L → b < 256) (hlen : L.length ≤ 4611686018427387904) (a : Option Addr) (cap : Nat) (h : IntsAt B W a (ints L)) :
    Calls Try.prog 104 #[.int .i64 m, .slice a (ints L).length cap] u.val (RetInts B W (ints (those m (freeB L)))) := by
  have hb := bit_le m hm
  have T1 : RowL (u.val.alloc (.cells #[.slice a (ints L).length cap] 22)) u.val.heap.size 22 [.slice a (ints L).length cap] := RowL.new _ _ _
  have hr1 : u.val.heap.size < (u.val.alloc (.cells #[.slice a (ints L).length cap] 22)).heap.size := by simp
  have hI : IntsAt (u.val.alloc (.cells #[.slice a (ints L).length cap] 22)).heap.size (u.val.alloc (.cells #[.slice a (ints L).length cap] 22)) a (ints L) := h.to (u.alloc _)
  have K : Hid (Calls Try.prog 58 #[.int .i64 m, .func (.func 203) #[] #[.pointer (some ⟨u.val.heap.size, 0, none⟩)]] (u.val.alloc (.cells #[.slice a (ints L).length cap] 22)) (RetInts (u.val.alloc (.cells #[.slice a (ints L).length cap] 22)).heap.size (u.val.alloc (.cells #[.slice a (ints L).length cap] 22)) (ints (those m (freeB L))))) := Lib.hid (by
    refine c_those (Later.self _) m hm 203 _ (freeB L) (fun args w => by kernel_rfl) (fun x v s hs => ?_)
    exact c_facesTell v L h256 hlen cap u.val.heap.size a s (by omega) (hI.to x) (Nat.lt_of_lt_of_le hr1 x.size) ((T1.keep x.below).cell rfl))
  clear h hI T1 hr1 h256
  go_enter Try.func104, Try.ntmps104
  go_wp2_with (first | (go_at_call 58; refine (K.out).mono ?_; rintro e _ ⟨_, rfl, ⟨ad1, cp1, rfl, hI1, hcp1⟩, v1, rfl⟩))
  go_ret
  exact RetP.mk ((u.alloc _).up v1) ⟨_, _, rfl, hI1, hcp1⟩

end Go.Proofs.Ytjpcelldbhdneaa
