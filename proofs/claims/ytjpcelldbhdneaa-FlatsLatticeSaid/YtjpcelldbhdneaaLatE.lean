
/-
  rotaref.Chains: the chains of flats from one up to all.
-/
import Derived.Test.YtjpcelldbhdneaaLatR
namespace Go.Proofs.Ytjpcelldbhdneaa
open Go.RowKit
set_option linter.unusedVariables false

/-- the contract of rotaref.Chains at flats d steps below all -/
def ChainsC (m : Nat) (L : List Nat) (a : Option Addr) (cap d : Nat) : Prop :=
  ∀ (B : Nat) (W : World) (u : Later B W) (f : Nat), IntsAt B W a (ints L) → f < bit m → Flat m L f → rk L f + d = rk L (bit m - 1) →
    Calls Try.prog 75 #[.agg #[.int .i64 m, .slice a (ints L).length cap], .int .i64 f] u.val (Ret B W (.int .i64 (dnF m L d f)))

section
variable {m r : Nat} {L : List Nat} (hm : m ≤ 8) (hne : L ≠ []) (hF : Fam8 L r) (hE : Exch L)
include hm hne hF hE
theorem dnF_bound {d f : Nat} (hf : f < bit m) (hfl : Flat m L f) (hd : rk L f + d = rk L (bit m - 1)) : dnF m L d f ≤ 16777216 := by
  have h1 := dnF_le hm hne hF hE d f hf hfl
  have h2 := rk_le_m8 L (bit m - 1)
  have h3 := pow8 d (by omega)
  have h4 : ((8 ^ d : Nat) : Int) ≤ ((16777216 : Nat) : Int) := Int.ofNat_le.2 h3
  generalize ((8 ^ d : Nat) : Int) = p at *
  omega
theorem dn_sum {d f : Nat} (hf : f < bit m) (hfl : Flat m L f) (hd : rk L f + (d + 1) = rk L (bit m - 1)) {k : Nat} (hk : k ≤ (those m (covP m L f)).length) : 0 ≤ isum (fun j => dnF m L d ((those m (covP m L f)).getD j 0)) k ∧ isum (fun j => dnF m L d ((those m (covP m L f)).getD j 0)) k ≤ 16777216 := by
  refine ⟨isum_nn (fun j _ => dnF_nn m L d _), ?_⟩
  have h1 := dnF_bound hm hne hF hE hf hfl hd
  have h2 : isum (fun j => dnF m L d ((those m (covP m L f)).getD j 0)) k ≤ isum (fun j => dnF m L d ((those m (covP m L f)).getD j 0)) (those m (covP m L f)).length := by
    obtain ⟨n, hn⟩ : ∃ n, (those m (covP m L f)).length = k + n := ⟨_, (Nat.add_sub_cancel' hk).symm⟩
    rw [hn]
    clear hn hk h1
    induction n with
    | zero => exact Int.le_refl _
    | succ n ih =>
      have := dnF_nn m L d ((those m (covP m L f)).getD (k + n) 0)
      rw [← Nat.add_assoc]
      simp only [isum] at ih ⊢
      omega
  exact Int.le_trans h2 h1
end

set_option maxRecDepth 100000 in
set_option maxHeartbeats 4000000 in
theorem c_chains_zero (m r : Nat) (hm : m ≤ 8) (L : List Nat) (hne : L ≠ []) (hF : Fam8 L r) (hE : Exch L) (a : Option Addr) (cap : Nat) : ChainsC m L a cap 0 := by
  intro B W u f h hf hfl hd
  have hb := bit_le m hm
  have hfe : f = bit m - 1 := flat_rank_eq hm hne hF hE hf (by omega) hfl (fun i hi => by
    rw [testBit_all]
    have := lt_m_of_testBit hf hi
    simpa using this) (by omega)
  have T0 : Hid (Two (u.val.alloc (.cells #[.int .i64 m, .slice a (ints L).length cap] 24)) u.val.heap.size 24 (.int .i64 m) (.slice a (ints L).length cap)) := Lib.hid (Two.new _ _ _ _)
  have hrr : u.val.heap.size < (u.val.alloc (.cells #[.int .i64 m, .slice a (ints L).length cap] 24)).heap.size := by simp
  have hI : IntsAt (u.val.alloc (.cells #[.int .i64 m, .slice a (ints L).length cap] 24)).heap.size (u.val.alloc (.cells #[.int .i64 m, .slice a (ints L).length cap] 24)) a (ints L) := h.to (u.alloc _)
  have HV : Hid (∀ v : Later (u.val.alloc (.cells #[.int .i64 m, .slice a (ints L).length cap] 24)).heap.size (u.val.alloc (.cells #[.int .i64 m, .slice a (ints L).length cap] 24)), ∃ w : Later B W, w.val = v.val) := Lib.hid (fun v => ⟨(u.alloc _).up v, rfl⟩)
  have q0 : ∀ w : Later (u.val.alloc (.cells #[.int .i64 m, .slice a (ints L).length cap] 24)).heap.size (u.val.alloc (.cells #[.int .i64 m, .slice a (ints L).length cap] 24)), w.val.cell? ⟨u.val.heap.size, 0, none⟩ = some (.int .i64 m) := fun w => (T0.out.keep w.below).c0
  have q1 : ∀ w : Later (u.val.alloc (.cells #[.int .i64 m, .slice a (ints L).length cap] 24)).heap.size (u.val.alloc (.cells #[.int .i64 m, .slice a (ints L).length cap] 24)), w.val.cell? ⟨u.val.heap.size, 1, none⟩ = some (.slice a (ints L).length cap) := fun w => (T0.out.keep w.below).c1
  have p0 : (u.val.alloc (.cells #[.int .i64 m, .slice a (ints L).length cap] 24)).cell? ⟨u.val.heap.size, 0, none⟩ = some (.int .i64 m) := T0.out.c0
  have p1 : (u.val.alloc (.cells #[.int .i64 m, .slice a (ints L).length cap] 24)).cell? ⟨u.val.heap.size, 1, none⟩ = some (.slice a (ints L).length cap) := T0.out.c1
  have KA : Hid (Calls Try.prog 123 #[.int .i64 m] (u.val.alloc (.cells #[.int .i64 m, .slice a (ints L).length cap] 24)) (Ret (u.val.alloc (.cells #[.int .i64 m, .slice a (ints L).length cap] 24)).heap.size (u.val.alloc (.cells #[.int .i64 m, .slice a (ints L).length cap] 24)) (.int .i64 ((bit m - 1 : Nat) : Int)))) := Lib.hid (by
    have := c_all (Later.self (u.val.alloc (.cells #[.int .i64 m, .slice a (ints L).length cap] 24))) (m : Int) (by omega) (by omega)
    rwa [all_nat] at this)
  have HD : Hid (dnF m L 0 f = 1) := Lib.hid rfl
  have hfi : (f : Int) = ((bit m - 1 : Nat) : Int) := by rw [hfe]
  rw [hfi]
  clear h hne hF hE hfl hd hfe hfi
  generalize ((bit m - 1 : Nat) : Int) = top at *
  go_enter Try.func75, Try.ntmps75
  go_wp2_with (first | (go_at_call 123; refine (KA.out).mono ?_; rintro e _ ⟨rfl, v1, rfl⟩))
  go_ret
  exact Ret.of (HV.out v1) (by rw [HD.out]; rfl)

set_option maxRecDepth 100000 in
set_option maxHeartbeats 8000000 in
theorem c_chains_step (m r : Nat) (hm : m ≤ 8) (L : List Nat) (hne : L ≠ []) (hF : Fam8 L r) (hE : Exch L) (hlen : L.length ≤ 4611686018427387904) (a : Option Addr) (cap d : Nat) (ih : ChainsC m L a cap d) : ChainsC m L a cap (d + 1) := by
  intro B W u f h hf hfl hd
  have hb := bit_le m hm
  have hfe : (f : Int) ≠ ((bit m - 1 : Nat) : Int) := fun e => by
    have e' : f = bit m - 1 := by omega
    subst e'
    omega
  have T0 : Hid (Two (u.val.alloc (.cells #[.int .i64 m, .slice a (ints L).length cap] 24)) u.val.heap.size 24 (.int .i64 m) (.slice a (ints L).length cap)) := Lib.hid (Two.new _ _ _ _)
  have hrr : u.val.heap.size < (u.val.alloc (.cells #[.int .i64 m, .slice a (ints L).length cap] 24)).heap.size := by simp
  have hI : IntsAt (u.val.alloc (.cells #[.int .i64 m, .slice a (ints L).length cap] 24)).heap.size (u.val.alloc (.cells #[.int .i64 m, .slice a (ints L).length cap] 24)) a (ints L) := h.to (u.alloc _)
  have HV : Hid (∀ v : Later (u.val.alloc (.cells #[.int .i64 m, .slice a (ints L).length cap] 24)).heap.size (u.val.alloc (.cells #[.int .i64 m, .slice a (ints L).length cap] 24)), ∃ w : Later B W, w.val = v.val) := Lib.hid (fun v => ⟨(u.alloc _).up v, rfl⟩)
  have q0 : ∀ w : Later (u.val.alloc (.cells #[.int .i64 m, .slice a (ints L).length cap] 24)).heap.size (u.val.alloc (.cells #[.int .i64 m, .slice a (ints L).length cap] 24)), w.val.cell? ⟨u.val.heap.size, 0, none⟩ = some (.int .i64 m) := fun w => (T0.out.keep w.below).c0
  have q1 : ∀ w : Later (u.val.alloc (.cells #[.int .i64 m, .slice a (ints L).length cap] 24)).heap.size (u.val.alloc (.cells #[.int .i64 m, .slice a (ints L).length cap] 24)), w.val.cell? ⟨u.val.heap.size, 1, none⟩ = some (.slice a (ints L).length cap) := fun w => (T0.out.keep w.below).c1
  have p0 : (u.val.alloc (.cells #[.int .i64 m, .slice a (ints L).length cap] 24)).cell? ⟨u.val.heap.size, 0, none⟩ = some (.int .i64 m) := T0.out.c0
  have p1 : (u.val.alloc (.cells #[.int .i64 m, .slice a (ints L).length cap] 24)).cell? ⟨u.val.heap.size, 1, none⟩ = some (.slice a (ints L).length cap) := T0.out.c1
  have KA : Hid (Calls Try.prog 123 #[.int .i64 m] (u.val.alloc (.cells #[.int .i64 m, .slice a (ints L).length cap] 24)) (Ret (u.val.alloc (.cells #[.int .i64 m, .slice a (ints L).length cap] 24)).heap.size (u.val.alloc (.cells #[.int .i64 m, .slice a (ints L).length cap] 24)) (.int .i64 ((bit m - 1 : Nat) : Int)))) := Lib.hid (by
    have := c_all (Later.self (u.val.alloc (.cells #[.int .i64 m, .slice a (ints L).length cap] 24))) (m : Int) (by omega) (by omega)
    rwa [all_nat] at this)
  have KB : Hid (∀ w : Later (u.val.alloc (.cells #[.int .i64 m, .slice a (ints L).length cap] 24)).heap.size (u.val.alloc (.cells #[.int .i64 m, .slice a (ints L).length cap] 24)), Calls Try.prog 76 #[.agg #[.int .i64 m, .slice a (ints L).length cap], .int .i64 f] w.val (RetOwn w.val.heap.size w.val (ints (those m (covP m L f))))) := Lib.hid (fun w => by
    rw [← above_same hm hne hF hE hf hfl]
    exact c_above (Later.self w.val) m r hm f L hne hF hE hlen a cap (hI.to w) hf)
  have HD : Hid (dnF m L (d + 1) f = isum (fun j => dnF m L d ((those m (covP m L f)).getD j 0)) (those m (covP m L f)).length) := Lib.hid rfl
  have HS : Hid (∀ k, k ≤ (those m (covP m L f)).length → 0 ≤ isum (fun j => dnF m L d ((those m (covP m L f)).getD j 0)) k ∧ isum (fun j => dnF m L d ((those m (covP m L f)).getD j 0)) k ≤ 16777216) := Lib.hid (fun k hk => dn_sum hm hne hF hE hf hfl hd hk)
  have KR : Hid (∀ (w : Later (u.val.alloc (.cells #[.int .i64 m, .slice a (ints L).length cap] 24)).heap.size (u.val.alloc (.cells #[.int .i64 m, .slice a (ints L).length cap] 24))) (j : Nat), j < (those m (covP m L f)).length → Calls Try.prog 75 #[.agg #[.int .i64 m, .slice a (ints L).length cap], .int .i64 (((those m (covP m L f)).getD j 0 : Nat) : Int)] w.val (Ret w.val.heap.size w.val (.int .i64 (dnF m L d ((those m (covP m L f)).getD j 0))))) := Lib.hid (fun w j hj => by
    obtain ⟨g1, g2⟩ := those_at hj
    obtain ⟨c1, _, c3⟩ := covP_iff.1 g2
    exact ih _ _ (Later.self w.val) _ (hI.to w) g1 c1 (by omega))
  have d0 : ((f : Int) == ((bit m - 1 : Nat) : Int)) = false := by rw [beq_eq_false_iff_ne]; exact hfe
  have HAl : Hid ((those m (covP m L f)).length ≤ 256) := Lib.hid (by have := thoseTo_len (covP m L f) (bit m); have e : those m (covP m L f) = thoseTo (covP m L f) (bit m) := rfl; rw [e]; omega)
  clear h hne hF hE hfl hd hfe ih
  generalize dnF m L (d + 1) f = res at *
  generalize those m (covP m L f) = A at *
  generalize ((bit m - 1 : Nat) : Int) = top at *
  go_enter Try.func75, Try.ntmps75
  go_upto_region 5 with (first | (go_at_call 123; ((with_reducible refine (KA.out).mono ?_); rintro e _ ⟨rfl, v1, rfl⟩)) | (go_at_call 76; ((with_reducible refine (KB.out v1).mono ?_); rintro e _ ⟨_, rfl, ⟨ad, cp, rfl, hO⟩, y1, rfl⟩)))
  have HI := Lib.hid (hO.reads)
  have r0 : ∀ w : Later y1.val.heap.size y1.val, w.val.cell? ⟨u.val.heap.size, 0, none⟩ = some (.int .i64 m) := fun w => q0 (v1.up (y1.up w))
  have r1 : ∀ w : Later y1.val.heap.size y1.val, w.val.cell? ⟨u.val.heap.size, 1, none⟩ = some (.slice a (ints L).length cap) := fun w => q1 (v1.up (y1.up w))
  have KR1 : Hid (∀ (w : Later y1.val.heap.size y1.val) (j : Nat), j < A.length → Calls Try.prog 75 #[.agg #[.int .i64 m, .slice a (ints L).length cap], .int .i64 ((A.getD j 0 : Nat) : Int)] w.val (Ret y1.val.heap.size y1.val (.int .i64 (dnF m L d (A.getD j 0))))) := Lib.hid (fun w j hj => (KR.out (v1.up (y1.up w)) j hj).mono (by
    rintro e _ ⟨rfl, w2, rfl⟩
    exact Ret.mk (w.up w2) rfl))
  have HVB : Hid (∀ v : Later y1.val.heap.size y1.val, ∃ w : Later B W, w.val = v.val) := Lib.hid (fun v => HV.out (v1.up (y1.up v)))
  clear KA KB KR q0 q1 p0 p1 HV T0 hrr hI hO
  generalize u.val.heap.size = gu at *
  generalize y1.val = V at *
  have hli : (ints A).length = A.length := ints_len A
  rw [hli]
  obtain ⟨y, hy⟩ : ∃ y : Later V.heap.size V, y.val = V := ⟨Later.self _, rfl⟩
  rw [← hy]
  clear hy
  go_wp2
  go_loopw [5, 7] (fun i s wr => ∃ (k : Nat) (v : Later V.heap.size V), k ≤ A.length ∧ i = .int .i64 (isum (fun j => dnF m L d (A.getD j 0)) k) ∧ s = .int .i64 k ∧ wr = v.val) (fun _ s _ => A.length - (intOf s).toNat)
  case atStart => exact ⟨0, y, by omega, rfl, rfl, rfl⟩
  case round =>
    clear y
    obtain ⟨k, v, hk, rfl, rfl, rfl⟩ := hrel
    by_cases hlt : k < A.length
    · obtain ⟨b, off, rfl, hbB, hcell⟩ := HI.out.at (k := k) (by rw [ints_len]; exact hlt)
      have c0 : ∀ v : Later V.heap.size V, v.val.cell? ⟨b, off + k, none⟩ = some (.int .i64 ((A.getD k 0 : Nat) : Int)) := fun v => by rw [← ints_getD]; exact hcell v k (by rw [ints_len]; exact hlt)
      have KC := Lib.hid (fun w => KR1.out w k hlt)
      have HSk := HS.out (k + 1) (by omega)
      have hs : isum (fun j => dnF m L d (A.getD j 0)) (k + 1) = isum (fun j => dnF m L d (A.getD j 0)) k + dnF m L d (A.getD k 0) := rfl
      rw [hs] at HSk
      have w1 := IntWalk.i64_in (isum (fun j => dnF m L d (A.getD j 0)) k + dnF m L d (A.getD k 0)) (by omega)
      have HN := Lib.hid hs
      clear hcell hs HSk HI
      have hAl := HAl.out
      generalize isum (fun j => dnF m L d (A.getD j 0)) k = P0 at *
      generalize dnF m L d (A.getD k 0) = q at *
      generalize A.getD k 0 = x at *
      go_wp2
      refine wp_region_later v (by kernel_rfl) (by kernel_rfl) (fun _ => ?_)
      repeat (first | go_big_quiet_step (((go_at_call 75; exact KC.out _))) | (refine wpQuiet_step (fun K hK => ?_); go_simp; refine ⟨_, fun _ => rfl, ?_⟩; refine hK _ ?_; clear hK K))
      refine wpQuiet_nil ?_
      intro v
      go_wp2
      go_roundw
      case rel => exact ⟨k+1, v, by omega, by rw [HN.out], by go_num, rfl⟩
      case measure => simp [intOf]; omega
    · have hke : k = A.length := by omega
      subst hke
      go_wp2
      go_ret
      exact Ret.of (HVB.out v) (by rw [HD.out]; rfl)

theorem c_refChains (m r : Nat) (hm : m ≤ 8) (L : List Nat) (hne : L ≠ []) (hF : Fam8 L r) (hE : Exch L) (hlen : L.length ≤ 4611686018427387904) (a : Option Addr) (cap : Nat) : ∀ d, ChainsC m L a cap d
  | 0 => c_chains_zero m r hm L hne hF hE a cap
  | d + 1 => c_chains_step m r hm L hne hF hE hlen a cap d (c_refChains m r hm L hne hF hE hlen a cap d)

end Go.Proofs.Ytjpcelldbhdneaa
