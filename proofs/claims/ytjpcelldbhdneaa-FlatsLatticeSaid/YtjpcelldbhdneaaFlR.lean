
/-
  rotaref.Mobius, Characteristic, Levels.
-/
import Derived.Test.YtjpcelldbhdneaaAxCloR
import Derived.Test.YtjpcelldbhdneaaAxRef
import Derived.Test.YtjpcelldbhdneaaFlPl
import Derived.Test.YtjpcelldbhdneaaMem64
import Derived.Test.YtjpcelldbhdneaaRowL
namespace Go.Proofs.Ytjpcelldbhdneaa
open Go.RowKit
set_option linter.unusedVariables false

/-- of a matroid: rotaref.Closure finds the closure -/
theorem rc_of_clo {m r : Nat} {L : List Nat} (hm : m ≤ 8) (hne : L ≠ []) (hF : Fam8 L r) (hE : Exch L) {s : Nat} (hs : s < bit m) : RcTo (those m (circB m L)) s m 0 (clo m L s) := by
  intro i hi
  rw [show ((clo m L s).testBit i = true ↔ s.testBit i = true ∨ (i < m ∧ rk L (s ||| bit i) = rk L s)) from cloTo_testBit L s m i]
  by_cases hlt : i < m
  · have key := clo_circ hm hne hF hE hs hlt
    have hcir : (∃ c, c ∈ those m (circB m L) ∧ c.testBit i = true ∧ c ||| (s ||| bit i) = (s ||| bit i)) ↔ adds (those m (circB m L)) s i (those m (circB m L)).length := by
      constructor
      · rintro ⟨c, h1, h2⟩
        obtain ⟨j, hj, e⟩ := List.getElem_of_mem h1
        have e2 : (those m (circB m L)).getD j 0 = c := by simp [hj, e]
        exact ⟨j, hj, by rw [e2]; exact h2⟩
      · rintro ⟨j, hj, h2⟩
        exact ⟨_, by simp [hj], h2⟩
    rw [hcir] at key
    constructor
    · rintro (g | g)
      · exact .inl g
      · rcases key.1 (.inr g.2) with h | h
        · exact .inl h
        · exact .inr (.inl ⟨hlt, h⟩)
    · rintro (g | g | g)
      · exact .inl g
      · rcases key.2 (.inr g.2) with h | h
        · exact .inl h
        · exact .inr ⟨hlt, h⟩
      · omega
  · constructor
    · rintro (g | g)
      · exact .inl g
      · omega
    · rintro (g | g | ⟨rfl, j, hj, _⟩)
      · exact .inl g
      · omega
      · omega
theorem c_refClo {B : Nat} {W : World} (u : Later B W) (m r : Nat) (hm : m ≤ 8) (s : Nat) (L : List Nat) (hne : L ≠ []) (hF : Fam8 L r) (hE : Exch L) (hlen : L.length ≤ 4611686018427387904) (a : Option Addr) (cap : Nat) (h : IntsAt B W a (ints L)) (hs : s < bit m) :
    Calls Try.prog 21 #[.agg #[.int .i64 m, .slice a (ints L).length cap], .int .i64 s] u.val (Ret B W (.int .i64 (clo m L s))) :=
  c_refClosure u m hm s (clo m L s) L hF.lt hlen a cap h hs (by have := clo_lt L hs; have := bit_le m hm; omega) (rc_of_clo hm hne hF hE hs)

theorem sgn_cases (s : Nat) : (((sz s : Nat) : Int) % 2 = 1 ∧ sgn s = -1) ∨ (((sz s : Nat) : Int) % 2 = 0 ∧ sgn s = 1) := by
  unfold sgn
  by_cases c : sz s % 2 = 1
  · rw [if_pos c]; left; omega
  · rw [if_neg c]; right; omega

set_option maxRecDepth 100000 in
set_option maxHeartbeats 8000000 in
theorem c_refMobius {B : Nat} {W : World} (u : Later B W) (m r : Nat) (hm : m ≤ 8) (L : List Nat) (hne : L ≠ []) (hF : Fam8 L r) (hE : Exch L) (hlen : L.length ≤ 4611686018427387904) (a : Option Addr) (cap : Nat) (h : IntsAt B W a (ints L)) (F : List Nat) (hFe : those m (flatR (those m (circB m L))) = F) (hn : 0 < F.length) (hFb : ∀ i, i < F.length → F.getD i 0 < bit m) (hFl : F.length ≤ 256) :
    Calls Try.prog 66 #[.agg #[.int .i64 m, .slice a (ints L).length cap]] u.val (RetInts B W (tabL F.length (fun i => nu m L (F.getD 0 0) (F.getD i 0)))) := by
  have hb := bit_le m hm
  have T0 : Hid (Two (u.val.alloc (.cells #[.int .i64 m, .slice a (ints L).length cap] 24)) u.val.heap.size 24 (.int .i64 m) (.slice a (ints L).length cap)) := Lib.hid (Two.new _ _ _ _)
  have hrr : u.val.heap.size < (u.val.alloc (.cells #[.int .i64 m, .slice a (ints L).length cap] 24)).heap.size := by simp
  have hI : IntsAt (u.val.alloc (.cells #[.int .i64 m, .slice a (ints L).length cap] 24)).heap.size (u.val.alloc (.cells #[.int .i64 m, .slice a (ints L).length cap] 24)) a (ints L) := h.to (u.alloc _)
  have HV : Hid (∀ v : Later (u.val.alloc (.cells #[.int .i64 m, .slice a (ints L).length cap] 24)).heap.size (u.val.alloc (.cells #[.int .i64 m, .slice a (ints L).length cap] 24)), ∃ w : Later B W, w.val = v.val) := Lib.hid (fun v => ⟨(u.alloc _).up v, rfl⟩)
  have q0 : ∀ w : Later (u.val.alloc (.cells #[.int .i64 m, .slice a (ints L).length cap] 24)).heap.size (u.val.alloc (.cells #[.int .i64 m, .slice a (ints L).length cap] 24)), w.val.cell? ⟨u.val.heap.size, 0, none⟩ = some (.int .i64 m) := fun w => (T0.out.keep w.below).c0
  have q1 : ∀ w : Later (u.val.alloc (.cells #[.int .i64 m, .slice a (ints L).length cap] 24)).heap.size (u.val.alloc (.cells #[.int .i64 m, .slice a (ints L).length cap] 24)), w.val.cell? ⟨u.val.heap.size, 1, none⟩ = some (.slice a (ints L).length cap) := fun w => (T0.out.keep w.below).c1
  have p0 : (u.val.alloc (.cells #[.int .i64 m, .slice a (ints L).length cap] 24)).cell? ⟨u.val.heap.size, 0, none⟩ = some (.int .i64 m) := T0.out.c0
  have p1 : (u.val.alloc (.cells #[.int .i64 m, .slice a (ints L).length cap] 24)).cell? ⟨u.val.heap.size, 1, none⟩ = some (.slice a (ints L).length cap) := T0.out.c1
  have K0 : Hid (Calls Try.prog 17 #[.agg #[.int .i64 m, .slice a (ints L).length cap]] (u.val.alloc (.cells #[.int .i64 m, .slice a (ints L).length cap] 24)) (RetInts (u.val.alloc (.cells #[.int .i64 m, .slice a (ints L).length cap] 24)).heap.size (u.val.alloc (.cells #[.int .i64 m, .slice a (ints L).length cap] 24)) (ints F))) := Lib.hid (by rw [← hFe]; exact c_refFlats (Later.self _) m hm L hF.lt hlen a cap hI)
  have KC : Hid (∀ (B : Nat) (W : World) (v : Later B W) (s : Nat), IntsAt B W a (ints L) → s < bit m → Calls Try.prog 21 #[.agg #[.int .i64 m, .slice a (ints L).length cap], .int .i64 s] v.val (Ret B W (.int .i64 (clo m L s)))) := Lib.hid (fun B W v s hI hs => c_refClo v m r hm s L hne hF hE hlen a cap hI hs)
  have HFb := Lib.hid hFb
  clear h hFb hFe hF hE hne
  go_enter Try.func66, Try.ntmps66
  go_upto_region 2 with (first | (go_at_call 17; ((with_reducible refine (K0.out).mono ?_); rintro e _ ⟨_, rfl, ⟨ad1, cp1, rfl, hI1, hcp1⟩, v1, rfl⟩)))
  have HI1 := Lib.hid hI1
  have r0 : ∀ w : Later v1.val.heap.size v1.val, w.val.cell? ⟨u.val.heap.size, 0, none⟩ = some (.int .i64 m) := fun w => q0 (v1.up w)
  have r1 : ∀ w : Later v1.val.heap.size v1.val, w.val.cell? ⟨u.val.heap.size, 1, none⟩ = some (.slice a (ints L).length cap) := fun w => q1 (v1.up w)
  have hIa : IntsAt v1.val.heap.size v1.val a (ints L) := hI.to v1
  have HVB : Hid (∀ v : Later v1.val.heap.size v1.val, ∃ w : Later B W, w.val = v.val) := Lib.hid (fun v => HV.out (v1.up v))
  clear K0 q0 q1 p0 p1 HV T0 hI1 hcp1 hrr hI
  generalize u.val.heap.size = gu at *
  generalize v1.val = V at *
  obtain ⟨bb, off, rfl, hbB, hcell⟩ := HI1.out.at (k := 0) (by rw [ints_len]; exact hn)
  have HFc : Hid (∀ (w : Later V.heap.size V) (k : Nat), k < F.length → w.val.cell? ⟨bb, off + k, none⟩ = some (.int .i64 ((F.getD k 0 : Nat) : Int))) := Lib.hid (fun w k hk => by rw [← ints_getD]; exact hcell w k (by rw [ints_len]; exact hk))
  have c00 : V.cell? ⟨bb, off, none⟩ = some (.int .i64 ((F.getD 0 0 : Nat) : Int)) := HFc.out (Later.self V) 0 hn
  have hlp := HFb.out 0 hn
  rw [ints_len F]
  obtain ⟨lp, hle⟩ : ∃ lp, F.getD 0 0 = lp := ⟨_, rfl⟩
  rw [hle] at c00 hlp
  have HLE := Lib.hid hle
  clear hle hcell HI1
  obtain ⟨y, hy⟩ : ∃ y : Later V.heap.size V, y.val = V := ⟨Later.self _, rfl⟩
  rw [← hy] at c00 ⊢
  clear hy
  go_wp2
  go_loopw [5, 6] (fun o i wr => ∃ (k : Nat) (ad : Option Addr) (cp : Nat) (v : Later V.heap.size V), k ≤ F.length ∧ i = .int .i64 k ∧ o = .slice ad (tabL k (fun i => nu m L lp (F.getD i 0))).length cp ∧ wr = v.val ∧ Hid (Own64 V.heap.size v.val ad cp (tabL k (fun i => nu m L lp (F.getD i 0))))) (fun _ i _ => F.length - (intOf i).toNat)
  case atStart => exact ⟨0, none, 0, y, by omega, rfl, rfl, rfl, Lib.hid (Own64.nil _ _)⟩
  case round =>
    clear y c00
    obtain ⟨k, ad, cp, v, hk, rfl, rfl, rfl, HO⟩ := hrel
    have hil : (ints F).length = F.length := ints_len F
    by_cases hlt : k < F.length
    · have c0 : ∀ w : Later V.heap.size V, w.val.cell? ⟨bb, off + k, none⟩ = some (.int .i64 ((F.getD k 0 : Nat) : Int)) := fun w => HFc.out w k hlt
      have hfk := HFb.out k hlt
      have HN := Lib.hid (tabL_snoc k (fun i => nu m L lp (F.getD i 0)))
      have HL : Hid ((tabL k (fun i => nu m L lp (F.getD i 0))).length ≤ 256) := Lib.hid (by rw [tabL_len]; omega)
      have HNu : Hid (isum (nuT m L lp (F.getD k 0)) (F.getD k 0 + 1) = nu m L lp (F.getD k 0)) := Lib.hid (nu_to L lp hfk)
      obtain ⟨nk, hnk⟩ : ∃ x, nu m L lp (F.getD k 0) = x := ⟨_, rfl⟩
      have HN2 : Hid (tabL (k + 1) (fun i => nu m L lp (F.getD i 0)) = tabL k (fun i => nu m L lp (F.getD i 0)) ++ [nk]) := Lib.hid (by rw [HN.out, hnk])
      rw [hnk] at HNu
      clear hnk HN
      generalize tabL k (fun i => nu m L lp (F.getD i 0)) = T at *
      generalize F.getD k 0 = f at *
      go_wp2
      go_loopw [7, 8] (fun o i wr => ∃ (s : Nat) (p : Int) (v : Later V.heap.size V), s ≤ f + 1 ∧ p = isum (nuT m L lp f) s ∧ o = .int .i64 p ∧ i = .int .i64 s ∧ wr = v.val ∧ Hid (Own64 V.heap.size v.val ad cp T)) (fun _ i _ => f + 1 - (intOf i).toNat)
      case atStart => exact ⟨0, 0, v, by omega, rfl, rfl, rfl, rfl, HO⟩
      case round =>
        clear v HO
        obtain ⟨s, p, v, hs, hp, rfl, rfl, rfl, HO⟩ := hrel
        have HP := Lib.hid hp
        clear hp
        rcases ile (s : Int) (f : Int) with ⟨hsf, d0⟩ | ⟨hsf, d0⟩
        · have hb1 : Hid (-(s : Int) ≤ p ∧ p ≤ s) := Lib.hid (by
            have := isum_le (n := s) (fun i _ => nuT_le m L lp f i)
            rw [Nat.mul_one] at this
            rw [HP.out]; exact this)
          have hb2 := hb1.out
          have HS : Hid (p + nuT m L lp f s = isum (nuT m L lp f) (s + 1)) := Lib.hid (by rw [HP.out]; rfl)
          have HOw : Hid (∀ y : Later v.val.heap.size v.val, Own64 V.heap.size y.val ad cp T) := Lib.hid (fun y => HO.out.keep y.below)
          have t0 : ∀ y : Later v.val.heap.size v.val, y.val.cell? ⟨bb, off + k, none⟩ = some (.int .i64 (f : Int)) := fun y => c0 (v.up y)
          have u0 : ∀ y : Later v.val.heap.size v.val, y.val.cell? ⟨gu, 0, none⟩ = some (.int .i64 m) := fun y => r0 (v.up y)
          have u1 : ∀ y : Later v.val.heap.size v.val, y.val.cell? ⟨gu, 1, none⟩ = some (.slice a (ints L).length cap) := fun y => r1 (v.up y)
          have KW := Lib.hid (fun y : Later v.val.heap.size v.val => c_within y s f (by omega) (by omega))
          have KCs := Lib.hid (fun (y : Later v.val.heap.size v.val) (hs : s < bit m) => KC.out _ _ y s (hIa.to v) hs)
          have KSz := Lib.hid (fun y : Later v.val.heap.size v.val => c_size y s (by omega))
          have tz : ∀ y : Later v.val.heap.size v.val, y.val.cell? ⟨bb, off + k, none⟩ = some (.int .i64 (f : Int)) := t0
          have o1 := i64_and s lp (by omega) (by omega)
          obtain ⟨y, hy⟩ : ∃ y : Later v.val.heap.size v.val, y.val = v.val := ⟨Later.self _, rfl⟩
          clear HO hb1
          have c0' := c0 v
          rw [← hy] at c0' ⊢
          clear hy
          by_cases hw : s ||| f = f
          case neg =>
            have K1 := Lib.hid (fun y => dcall_f (KW.out y) hw)
            have HZ : Hid (p = isum (nuT m L lp f) (s + 1)) := Lib.hid (by
              rw [← HS.out]
              have : nuT m L lp f s = 0 := by unfold nuT; rw [if_neg (fun h => hw h.1)]
              rw [this, Int.add_zero])
            clear hw KW KCs KSz
            go_wp2
            refine wp_region_later y (by kernel_rfl) (by kernel_rfl) (fun _ => ?_)
            repeat (first | go_big_quiet_step (((go_at_call 107; exact K1.out _))) | (refine wpQuiet_step (fun K hK => ?_); go_simp; refine ⟨_, fun _ => rfl, ?_⟩; refine hK _ ?_; clear hK K))
            refine wpQuiet_nil ?_
            intro y
            go_wp2
            go_roundw
            case rel => exact ⟨s+1, p, v.up y, by omega, HZ.out, rfl, by go_num, rfl, Lib.hid (HOw.out y)⟩
            case measure => simp [intOf]; omega
          have K1 := Lib.hid (fun y => dcall_t (KW.out y) hw)
          by_cases hz : s &&& lp = 0
          case neg =>
            have d1 : (((s &&& lp : Nat) : Int) != 0) = true := by rw [bne_iff_ne]; omega
            have HZ : Hid (p = isum (nuT m L lp f) (s + 1)) := Lib.hid (by
              rw [← HS.out]
              have : nuT m L lp f s = 0 := by unfold nuT; rw [if_neg (fun h => hz h.2.1)]
              rw [this, Int.add_zero])
            clear hw hz KW KCs KSz
            generalize s &&& lp = sl at *
            go_wp2
            refine wp_region_later y (by kernel_rfl) (by kernel_rfl) (fun _ => ?_)
            repeat (first | go_big_quiet_step (((go_at_call 107; exact K1.out _))) | (refine wpQuiet_step (fun K hK => ?_); go_simp; refine ⟨_, fun _ => rfl, ?_⟩; refine hK _ ?_; clear hK K))
            refine wpQuiet_nil ?_
            intro y
            go_wp2
            go_roundw
            case rel => exact ⟨s+1, p, v.up y, by omega, HZ.out, rfl, by go_num, rfl, Lib.hid (HOw.out y)⟩
            case measure => simp [intOf]; omega
          have d1 : (((s &&& lp : Nat) : Int) != 0) = false := by rw [bne_eq_false_iff_eq]; omega
          have hsb : s < bit m := by omega
          have K2 := Lib.hid (fun y => KCs.out y hsb)
          by_cases hc : clo m L s = f
          case neg =>
            have d2 : (((clo m L s : Nat) : Int) != (f : Int)) = true := by rw [bne_iff_ne]; omega
            have HZ : Hid (p = isum (nuT m L lp f) (s + 1)) := Lib.hid (by
              rw [← HS.out]
              have : nuT m L lp f s = 0 := by unfold nuT; rw [if_neg (fun h => hc h.2.2)]
              rw [this, Int.add_zero])
            clear hw hz KW KCs KSz hc
            generalize s &&& lp = sl at *
            generalize clo m L s = cl at *
            go_wp2
            refine wp_region_later y (by kernel_rfl) (by kernel_rfl) (fun _ => ?_)
            repeat (first | go_big_quiet_step ((first | (go_at_call 107; exact K1.out _) | (go_at_call 21; exact K2.out _))) | (refine wpQuiet_step (fun K hK => ?_); go_simp; refine ⟨_, fun _ => rfl, ?_⟩; refine hK _ ?_; clear hK K))
            refine wpQuiet_nil ?_
            intro y
            go_wp2
            go_roundw
            case rel => exact ⟨s+1, p, v.up y, by omega, HZ.out, rfl, by go_num, rfl, Lib.hid (HOw.out y)⟩
            case measure => simp [intOf]; omega
          have d2 : (((clo m L s : Nat) : Int) != (f : Int)) = false := by rw [bne_eq_false_iff_eq]; omega
          have HZ : Hid (p + sgn s = isum (nuT m L lp f) (s + 1)) := Lib.hid (by
            rw [← HS.out]
            have : nuT m L lp f s = sgn s := by unfold nuT; rw [if_pos ⟨hw, hz, hc⟩]
            rw [this])
          have KSv : Hid (∀ y : Later v.val.heap.size v.val, Calls Try.prog 44 #[.int .i64 s] y.val (Ret v.val.heap.size v.val (.int .i64 (sz s)))) := Lib.hid (fun y => KSz.out y)
          have hz8 := sz_le s
          have w1 := IntWalk.i64_in (p - 1) (by omega)
          have w2 := IntWalk.i64_in (p + 1) (by omega)
          rcases sgn_cases s with ⟨hm1, hsg⟩ | ⟨hm1, hsg⟩
          · have hm2 : Int.tmod ((sz s : Nat) : Int) 2 = 1 := by rw [Int.tmod_eq_emod_of_nonneg (by omega)]; exact hm1
            rw [hsg] at HZ
            clear hw hz KW KCs KSz hc hsg
            generalize s &&& lp = sl at *
            generalize clo m L s = cl at *
            generalize sz s = q at *
            go_wp2
            refine wp_region_later y (by kernel_rfl) (by kernel_rfl) (fun _ => ?_)
            repeat (first | go_big_quiet_step ((first | (go_at_call 107; exact K1.out _) | (go_at_call 21; exact K2.out _))) | (refine wpQuiet_step (fun K hK => ?_); go_simp; refine ⟨_, fun _ => rfl, ?_⟩; refine hK _ ?_; clear hK K))
            refine wpQuiet_nil ?_
            intro y
            go_wp2_with (first | (go_at_call 44; ((with_reducible refine (KSv.out _).mono ?_); rintro e _ ⟨rfl, y, rfl⟩)))
            go_roundw
            case rel => exact ⟨s+1, p - 1, v.up y, by omega, HZ.out, rfl, by go_num, rfl, Lib.hid (HOw.out y)⟩
            case measure => simp [intOf]; omega
          · have hm2 : Int.tmod ((sz s : Nat) : Int) 2 = 0 := by rw [Int.tmod_eq_emod_of_nonneg (by omega)]; exact hm1
            rw [hsg] at HZ
            clear hw hz KW KCs KSz hc hsg
            generalize s &&& lp = sl at *
            generalize clo m L s = cl at *
            generalize sz s = q at *
            go_wp2
            refine wp_region_later y (by kernel_rfl) (by kernel_rfl) (fun _ => ?_)
            repeat (first | go_big_quiet_step ((first | (go_at_call 107; exact K1.out _) | (go_at_call 21; exact K2.out _))) | (refine wpQuiet_step (fun K hK => ?_); go_simp; refine ⟨_, fun _ => rfl, ?_⟩; refine hK _ ?_; clear hK K))
            refine wpQuiet_nil ?_
            intro y
            go_wp2_with (first | (go_at_call 44; ((with_reducible refine (KSv.out _).mono ?_); rintro e _ ⟨rfl, y, rfl⟩)))
            go_roundw
            case rel => exact ⟨s+1, p + 1, v.up y, by omega, HZ.out, rfl, by go_num, rfl, Lib.hid (HOw.out y)⟩
            case measure => simp [intOf]; omega
        · have hse : s = f + 1 := by omega
          have HE : Hid (p = nk) := Lib.hid (by rw [HP.out, hse, HNu.out])
          clear hse
          go_wp2_with (first | (at_builtin; refine wpList_push64 (B := V.heap.size) (W := V) (w := v.val) v.below v.size rfl _ _ rfl T ad cp p rfl HO.out rfl (by have := HL.out; omega) ?_; intro u2 ad2 cp2 hown))
          go_roundw
          case rel =>
            refine ⟨k+1, ad2, cp2, u2, by omega, by go_num, ?_, rfl, ?_⟩
            · rw [HN2.out]; simp
            · rw [HN2.out, ← HE.out]; exact Lib.hid hown
          case measure => simp [intOf]; omega
    · have hke : Hid (k = F.length) := Lib.hid (by omega)
      go_wp2
      go_ret
      rw [hke.out] at HO ⊢
      rw [HLE.out]
      exact RetP.of (HVB.out v) (Reads.of_own64 HO.out)

end Go.Proofs.Ytjpcelldbhdneaa
