/-
  PROVED HERE: rotalaw.ConvexSays returns true, whatever it is handed: any int n, any slice l of int, any int s. No conditions.
-/
import Derived.Test.YtcljgnmlpfddiaaConv7
namespace Go.Proofs.Ytcljgnmlpfddiaa
open Go.RowKit
set_option linter.unusedVariables false

theorem c_one_ok {B : Nat} {W : World} (u : Later B W) (x : Int) : Calls Try.prog 24 #[.int .i64 x, .int .i64 0, .int .i64 x, .int .i64 0] u.val (Ret B W (.bool true)) := c_one u x 0 x 0 rfl (by rw [if_pos rfl])
theorem c_one_err {B : Nat} {W : World} (u : Later B W) (y e : Int) (he : e ≠ 0) : Calls Try.prog 24 #[.int .i64 0, .int .i64 e, .int .i64 y, .int .i64 e] u.val (Ret B W (.bool true)) := c_one u 0 e y e rfl (by rw [if_neg he])

theorem RightIs.of {n : Int} {l : List Int} {s c : Int} (h : ChkIs n l c) : RightIs n l s (if c = 0 then errno (decide (isSet n s)) 1 else c) := ⟨c, h, rfl⟩

set_option maxHeartbeats 4000000 in
theorem law_convexSays {B : Nat} {W : World} (u : Later B W) (n s : Int) (l : List Int) (a : Option Addr) (cap : Nat) (h : IntsAt B W a l) (hlen : l.length ≤ 4611686018427387904) :
    Calls Try.prog 9 #[.int .i64 n, .slice a l.length cap, .int .i64 s] u.val (Ret B W (.bool true)) := by
  obtain ⟨c, hc⟩ := ChkIs.ex n l
  have hr := RightIs.of (s := s) hc
  obtain ⟨X, hX⟩ := ExtIs.ex n.toNat l s.toNat
  have HA := Lib.hid (c_antimatroid u n l a cap c h hlen hc)
  rcases ieq c 0 with ⟨g, d1, d2⟩ | ⟨g, d1, d2⟩
  case inr =>
    -- the family is none, or no antimatroid
    rw [if_neg g] at hr
    have H1 := Lib.hid (fun u : Later B W => c_convexHull u n l s a cap c h hlen hr)
    have H2 := Lib.hid (fun u : Later B W => c_extreme u n l s a cap c X h hlen hr hX)
    have H3 := Lib.hid (fun u : Later B W => c_orders u n l a cap c h hlen hc)
    have H4 := Lib.hid (fun u : Later B W => c_first u n l a cap c h hlen hc)
    simp only [if_neg g] at H1 H2 H3 H4
    have H5 := Lib.hid (fun (B : Nat) (W : World) (u : Later B W) (h : IntsAt B W a l) => c_convexCheck u n l a cap c h hlen hc)
    have HO := Lib.hid (fun (B : Nat) (W : World) (u : Later B W) (y : Int) => c_one_err u y c g)
    have HL := Lib.hid (fun (B : Nat) (W : World) (u : Later B W) (ad : Option Addr) (cp : Nat) (h : IntsAt B W ad []) => c_list u [] [] ad none cp 0 c c h IntsAt.nil (by simp) rfl (by rw [if_neg g]))
    have HI := Lib.hid h
    clear h hc hr hX g
    go_enter Try.func9, Try.ntmps9
    go_wp2_with (first | (go_at_call 46; refine HA.out.mono ?_; rintro e _ ⟨rfl, v1, rfl⟩) | (go_at_call 50; refine (H1.out _).mono ?_; rintro e _ ⟨rfl, v1, rfl⟩) | (go_at_call 51; refine (H2.out _).mono ?_; rintro e _ ⟨rfl, v1, rfl⟩) | (go_at_call 52; refine (H3.out _).mono ?_; rintro e _ ⟨rfl, v1, rfl⟩))
    refine (H4.out _).mono ?_
    rintro e _ ⟨_, rfl, ⟨_, rfl, ⟨ad2, cp2, rfl, hI3, hcp3⟩⟩, v2, rfl⟩
    have HI3 := Lib.hid hI3
    clear hI3 hcp3
    have H6 := Lib.hid (fun v => H5.out _ _ v (HI.out.to v2))
    have H7 := Lib.hid (fun v => HO.out v2.val.heap.size v2.val v)
    have H8 := Lib.hid (fun v => HL.out v2.val.heap.size v2.val v ad2 cp2 HI3.out)
    obtain ⟨v3, hv3⟩ : ∃ v3 : Later v2.val.heap.size v2.val, v3.val = v2.val := ⟨Later.self _, rfl⟩
    rw [← hv3]
    clear hv3
    go_wp2_with (first | (go_at_call 54; refine (H6.out _).mono ?_; rintro e _ ⟨rfl, v4, rfl⟩) | (go_at_call 24; refine (H7.out _ _).mono ?_; rintro e _ ⟨rfl, v4, rfl⟩) | (go_at_call 45; refine (H8.out _).mono ?_; rintro e _ ⟨rfl, v4, rfl⟩))
    go_ret
    exact Ret.mk (v2.up v4) rfl
  case inl =>
    subst g
    obtain ⟨hf, hg⟩ := Chk.zero hc
    obtain ⟨m, rfl⟩ := Int.eq_ofNat_of_zero_le hf.1
    have hm : m ≤ 8 := by have := hf.2.1; omega
    have hbm := bit_le m hm
    rw [if_pos rfl] at hr
    have HT : Hid (∀ u : Later B W, Calls Try.prog 47 #[.int .i64 (m : Int), .slice a l.length cap, .int .i64 0] u.val (RetP B W (takPost (tak l m m 0)))) := fun u => c_takings m l a cap hm hlen m B W u 0 h (by omega) (rem_none m)
    have K1 := Lib.hid (fun (B : Nat) (W : World) (u : Later B W) (h : IntsAt B W a l) => c_convexHull u (m : Int) l s a cap _ h hlen hr)
    have K2 := Lib.hid (fun (B : Nat) (W : World) (u : Later B W) (h : IntsAt B W a l) => c_extreme u (m : Int) l s a cap _ X h hlen hr hX)
    have K3 := Lib.hid (fun (B : Nat) (W : World) (u : Later B W) (h : IntsAt B W a l) => c_orders u (m : Int) l a cap 0 h hlen hc)
    have K4 := Lib.hid (fun (B : Nat) (W : World) (u : Later B W) (h : IntsAt B W a l) => c_first u (m : Int) l a cap 0 h hlen hc)
    have K5 := Lib.hid (fun (B : Nat) (W : World) (u : Later B W) (h : IntsAt B W a l) => c_convexCheck u (m : Int) l a cap 0 h hlen hc)
    have K6 := Lib.hid (fun (B : Nat) (W : World) (u : Later B W) => c_isSet u (m : Int) s)
    have KO := Lib.hid (fun (B : Nat) (W : World) (u : Later B W) (x : Int) => c_one_ok u x)
    have KL := Lib.hid (fun (B : Nat) (W : World) (u : Later B W) (ad bd : Option Addr) (cp cq : Nat) (h : IntsAt B W ad (firstOf m l)) (h' : IntsAt B W bd (firstOf m l)) => c_list u (firstOf m l) (firstOf m l) ad bd cp cq 0 0 h h' (by have := tak_len l m m 0; unfold firstOf; omega) rfl (by rw [if_pos rfl]))
    simp only [if_pos, Int.toNat_natCast] at K3 K4
    simp only [Int.toNat_natCast] at K1 K2
    have HI := Lib.hid h
    by_cases hs : isSet m s
    case neg =>
      rw [show errno (decide (isSet (m : Int) s)) 1 = 1 by simp [errno, hs]] at K1 K2
      have KE := Lib.hid (fun (B : Nat) (W : World) (u : Later B W) (y : Int) => c_one_err u y 1 (by decide))
      simp only [if_neg (show ¬ (1 : Int) = 0 by decide)] at K1 K2
      have KB : Hid (∀ (B : Nat) (W : World) (u : Later B W), Calls Try.prog 14 #[.bool false, .int .i64 1] u.val (Ret B W (.int .i64 1))) := fun B W u => c_bad u false 1
      have K7 := Lib.hid (fun (B : Nat) (W : World) (u : Later B W) => dcall_f (K6.out B W u) hs)
      clear h hc hr hX hf hg hs
      go_enter Try.func9, Try.ntmps9
      go_wp2_with (go_at_call 46; refine HA.out.mono ?_; rintro e _ ⟨rfl, v1, rfl⟩)
      refine (HT.out _).mono ?_
      rintro e _ ⟨_, rfl, ⟨_, rfl, ⟨ad, cp, rfl, hI1, hcp1⟩⟩, v2, rfl⟩
      have HI1 : Hid (IntsAt v2.val.heap.size v2.val ad (firstOf m l)) := hI1
      clear hI1 hcp1
      have hl2 : (tak l m m 0).2 = firstOf m l := rfl
      rw [hl2]
      clear hl2
      have HI2 := Lib.hid (HI.out.to v2)
      have H1 := Lib.hid (fun v => K1.out _ _ v HI2.out)
      have H2 := Lib.hid (fun v => K2.out _ _ v HI2.out)
      have H3 := Lib.hid (fun v => K3.out _ _ v HI2.out)
      have H4 := Lib.hid (fun v => K4.out _ _ v HI2.out)
      have H7 := Lib.hid (fun v => K7.out v2.val.heap.size v2.val v)
      have HB := Lib.hid (fun v => KB.out v2.val.heap.size v2.val v)
      obtain ⟨v3, hv3⟩ : ∃ v3 : Later v2.val.heap.size v2.val, v3.val = v2.val := ⟨Later.self _, rfl⟩
      rw [← hv3]
      clear hv3
      go_wp2_with (first | (go_at_call 40; refine (H7.out _).mono ?_; rintro e _ ⟨rfl, v4, rfl⟩) | (go_at_call 14; refine (HB.out _).mono ?_; rintro e _ ⟨rfl, v4, rfl⟩) | (go_at_call 50; refine (H1.out _).mono ?_; rintro e _ ⟨rfl, v4, rfl⟩) | (go_at_call 51; refine (H2.out _).mono ?_; rintro e _ ⟨rfl, v4, rfl⟩) | (go_at_call 52; refine (H3.out _).mono ?_; rintro e _ ⟨rfl, v4, rfl⟩))
      refine (H4.out _).mono ?_
      rintro e _ ⟨_, rfl, ⟨_, rfl, ⟨ad2, cp2, rfl, hI3, hcp3⟩⟩, v5, rfl⟩
      have HI3 := Lib.hid hI3
      clear hI3 hcp3
      have G5 := Lib.hid (fun v => K5.out _ _ v (HI2.out.to v5))
      have GO := Lib.hid (fun v => KO.out v5.val.heap.size v5.val v)
      have GE := Lib.hid (fun v => KE.out v5.val.heap.size v5.val v)
      have GL := Lib.hid (fun v => KL.out v5.val.heap.size v5.val v ad2 ad cp2 cp HI3.out (HI1.out.to v5))
      obtain ⟨v6, hv6⟩ : ∃ v6 : Later v5.val.heap.size v5.val, v6.val = v5.val := ⟨Later.self _, rfl⟩
      rw [← hv6]
      clear hv6
      go_wp2_with (first | (go_at_call 54; refine (G5.out _).mono ?_; rintro e _ ⟨rfl, v7, rfl⟩) | (go_at_call 24; (with_reducible refine (GE.out _ _).mono ?_); rintro e _ ⟨rfl, v7, rfl⟩) | (go_at_call 24; (with_reducible refine (GO.out _ _).mono ?_); rintro e _ ⟨rfl, v7, rfl⟩) | (go_at_call 45; refine (GL.out _).mono ?_; rintro e _ ⟨rfl, v7, rfl⟩))
      go_ret
      exact Ret.mk ((v2.up v5).up v7) rfl
    case pos =>
      obtain ⟨m', t, hmm, rfl, _, ht, ht2⟩ := isSet_nat hs
      obtain rfl : m' = m := by omega
      clear hmm
      rw [show errno (decide (isSet (m' : Int) (t : Int))) 1 = 0 by simp [errno, hs]] at K1 K2
      simp only [if_pos, Int.toNat_natCast] at K1 K2
      have hX' : ExtIs m' l t X := hX
      have KB : Hid (∀ (B : Nat) (W : World) (u : Later B W), Calls Try.prog 14 #[.bool true, .int .i64 1] u.val (Ret B W (.int .i64 0))) := fun B W u => c_bad u true 1
      have K7 := Lib.hid (fun (B : Nat) (W : World) (u : Later B W) => dcall_t (K6.out B W u) hs)
      have K8 := Lib.hid (fun (B : Nat) (W : World) (u : Later B W) (h : IntsAt B W a l) => c_refHull u m' t l a cap h hlen hf ht)
      have K9 := Lib.hid (fun (B : Nat) (W : World) (u : Later B W) (h : IntsAt B W a l) => c_ends u m' t X l a cap h hlen hf ht hX')
      clear h hc hr hX hf hg hs hX'
      go_enter Try.func9, Try.ntmps9
      go_wp2_with (go_at_call 46; refine HA.out.mono ?_; rintro e _ ⟨rfl, v1, rfl⟩)
      refine (HT.out _).mono ?_
      rintro e _ ⟨_, rfl, ⟨_, rfl, ⟨ad, cp, rfl, hI1, hcp1⟩⟩, v2, rfl⟩
      have HI1 : Hid (IntsAt v2.val.heap.size v2.val ad (firstOf m' l)) := hI1
      clear hI1 hcp1
      have hl2 : (tak l m' m' 0).2 = firstOf m' l := rfl
      rw [hl2]
      clear hl2
      have HI2 := Lib.hid (HI.out.to v2)
      have H1 := Lib.hid (fun v => K1.out _ _ v HI2.out)
      have H2 := Lib.hid (fun v => K2.out _ _ v HI2.out)
      have H3 := Lib.hid (fun v => K3.out _ _ v HI2.out)
      have H4 := Lib.hid (fun v => K4.out _ _ v HI2.out)
      have H7 := Lib.hid (fun v => K7.out v2.val.heap.size v2.val v)
      have H8 := Lib.hid (fun v => K8.out _ _ v HI2.out)
      have H9 := Lib.hid (fun v => K9.out _ _ v HI2.out)
      have HB := Lib.hid (fun v => KB.out v2.val.heap.size v2.val v)
      obtain ⟨v3, hv3⟩ : ∃ v3 : Later v2.val.heap.size v2.val, v3.val = v2.val := ⟨Later.self _, rfl⟩
      rw [← hv3]
      clear hv3
      go_wp2_with (first | (go_at_call 40; refine (H7.out _).mono ?_; rintro e _ ⟨rfl, v4, rfl⟩) | (go_at_call 14; refine (HB.out _).mono ?_; rintro e _ ⟨rfl, v4, rfl⟩) | (go_at_call 48; refine (H8.out _).mono ?_; rintro e _ ⟨rfl, v4, rfl⟩) | (go_at_call 49; refine (H9.out _).mono ?_; rintro e _ ⟨rfl, v4, rfl⟩) | (go_at_call 50; refine (H1.out _).mono ?_; rintro e _ ⟨rfl, v4, rfl⟩) | (go_at_call 51; refine (H2.out _).mono ?_; rintro e _ ⟨rfl, v4, rfl⟩) | (go_at_call 52; refine (H3.out _).mono ?_; rintro e _ ⟨rfl, v4, rfl⟩))
      refine (H4.out _).mono ?_
      rintro e _ ⟨_, rfl, ⟨_, rfl, ⟨ad2, cp2, rfl, hI3, hcp3⟩⟩, v5, rfl⟩
      have HI3 := Lib.hid hI3
      clear hI3 hcp3
      have G5 := Lib.hid (fun v => K5.out _ _ v (HI2.out.to v5))
      have GO := Lib.hid (fun v => KO.out v5.val.heap.size v5.val v)
      have GL := Lib.hid (fun v => KL.out v5.val.heap.size v5.val v ad2 ad cp2 cp HI3.out (HI1.out.to v5))
      obtain ⟨v6, hv6⟩ : ∃ v6 : Later v5.val.heap.size v5.val, v6.val = v5.val := ⟨Later.self _, rfl⟩
      rw [← hv6]
      clear hv6
      go_wp2_with (first | (go_at_call 54; refine (G5.out _).mono ?_; rintro e _ ⟨rfl, v7, rfl⟩) | (go_at_call 24; (with_reducible refine (GO.out _ _).mono ?_); rintro e _ ⟨rfl, v7, rfl⟩) | (go_at_call 45; refine (GL.out _).mono ?_; rintro e _ ⟨rfl, v7, rfl⟩))
      go_ret
      exact Ret.mk ((v2.up v5).up v7) rfl

end Go.Proofs.Ytcljgnmlpfddiaa
