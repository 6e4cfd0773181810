
/-
  rotalaw.one, where both sides agree.
  rotalaw.HallSays returns true, whatever it is handed.
-/
import Derived.Test.YtdhmponbakodmaaDoorPk06
import Derived.Test.YtdhmponbakodmaaDoorPk19
import Derived.Test.YtdhmponbakodmaaDoorPk21
import Derived.Test.YtdhmponbakodmaaDoorPk22
namespace Go.Proofs.YtdhmponbakodmaaDoor
open Go.RowKit
set_option linter.unusedVariables false

theorem c_one_yes {B : Nat} {W : World} (u : Later B W) (x : Int) : Calls Tryd.prog 15 #[.int .i64 x, .int .i64 0, .int .i64 x, .int .i64 0] u.val (Ret B W (.bool true)) := c_one u x 0 x 0 rfl (by rw [if_pos rfl])
theorem c_one_no {B : Nat} {W : World} (u : Later B W) (y e : Int) (he : e ≠ 0) : Calls Tryd.prog 15 #[.int .i64 0, .int .i64 e, .int .i64 y, .int .i64 e] u.val (Ret B W (.bool true)) := c_one u 0 e y e rfl (by rw [if_neg he])

end Go.Proofs.YtdhmponbakodmaaDoor

namespace Go.Proofs.YtdhmponbakodmaaDoor
open Go.RowKit
set_option linter.unusedVariables false

set_option maxRecDepth 100000 in
set_option maxHeartbeats 8000000 in
theorem law_hall_no {B : Nat} {W : World} (u : Later B W) (n : Int) (l : List Int) (a : Option Addr) (cap : Nat) (e : Int) (h : IntsAt B W a l) (hlen : l.length ≤ 4611686018427387904) (he : LisIs n l e) (h0 : e ≠ 0) :
    Calls Tryd.prog 3 #[.int .i64 n, .slice a l.length cap] u.val (Ret B W (.bool true)) := by
  have KL := Lib.hid (fun v : Later B W => c_lists v n l a cap e h hlen he)
  have KC := Lib.hid (fun v : Later B W => c_hallCheck v n l a cap e h hlen he)
  have KM := Lib.hid (fun v : Later B W => c_most_no v n l a cap e h hlen he h0)
  have KB := Lib.hid (fun v : Later B W => (c_hallNo v n l a cap e h hlen he h0).1)
  have KN := Lib.hid (fun v : Later B W => (c_hallNo v n l a cap e h hlen he h0).2.1)
  have KS := Lib.hid (fun v : Later B W => (c_hallNo v n l a cap e h hlen he h0).2.2)
  have d0 : (e != 0) = true := by rw [bne_iff_ne]; exact h0
  have d1 : (e == e) = true := by rw [beq_iff_eq]
  clear h he h0
  go_enter Tryd.func3, Tryd.ntmps3
  go_wp2_with (first | (go_at_call 4; (with_reducible refine ((KL.out _)).mono ?_); rintro e _ ⟨rfl, y, rfl⟩) | (go_at_call 5; (with_reducible refine ((KM.out _)).mono ?_); rintro e _ ⟨rfl, y, rfl⟩) | (go_at_call 6; (with_reducible refine ((KS.out _)).mono ?_); rintro e _ ⟨rfl, y, rfl⟩) | (go_at_call 7; (with_reducible refine ((KB.out _)).mono ?_); rintro e _ ⟨rfl, y, rfl⟩) | (go_at_call 8; (with_reducible refine ((KN.out _)).mono ?_); rintro e _ ⟨rfl, y, rfl⟩) | (go_at_call 9; (with_reducible refine ((KC.out _)).mono ?_); rintro e _ ⟨rfl, y, rfl⟩))
  go_ret
  exact Ret.mk y rfl

set_option maxRecDepth 100000 in
set_option maxHeartbeats 20000000 in
theorem law_hall_yes {B : Nat} {W : World} (u : Later B W) (m : Nat) (hm : m ≤ 8) (ls : List Nat) (a : Option Addr) (cap : Nat) (h : IntsAt B W a (ints ls)) (hcap : a = none → cap = 0) (h8 : ls.length ≤ 8) (hls : ∀ k, k < ls.length → ls.getD k 0 < bit m) (hL : LisIs (m : Int) (ints ls) 0) (hD : Dbr B W) :
    Calls Tryd.prog 3 #[.int .i64 m, .slice a ls.length cap] u.val (Ret B W (.bool true)) := by
  have hbm := bit_le m hm
  have hbl := bit_le ls.length h8
  obtain ⟨xs, ok, er, hxs, hok, her, hxl⟩ : ∃ (xs : List Nat) (ok : Bool) (er : Int), (rado m (gAll m) ls 0).getD [] = xs ∧ (rado m (gAll m) ls 0).isSome = ok ∧ (if (rado m (gAll m) ls 0).isSome then (0 : Int) else 5) = er ∧ ((ok = true ∧ er = 0) ∨ (ok = false ∧ er = 5 ∧ xs = [])) := by
    refine ⟨_, _, _, rfl, rfl, rfl, ?_⟩
    cases rado m (gAll m) ls 0 with
    | none => exact .inr ⟨rfl, rfl, rfl⟩
    | some l => exact .inl ⟨rfl, rfl⟩
  have hx8 : xs.length ≤ 8 := by
    rw [← hxs]
    cases hr : rado m (gAll m) ls 0 with
    | none => simp
    | some l => have := rado_len _ _ _ hr; simp; omega
  have KL := Lib.hid (fun v : Later B W => c_lists v m (ints ls) a cap 0 h (by rw [ints_len]; omega) hL)
  have KM := Lib.hid (fun v : Later B W => c_most v m hm ls h8 hls a cap h hD hL)
  have KS := Lib.hid (fun v : Later B W => c_hallStand v m hm ls h8 hls a cap h hcap hD hL)
  rw [ints_len] at KL
  rw [hxs, her] at KS
  go_enter Tryd.func3, Tryd.ntmps3
  go_upto_region 4 with (first | (go_at_call 4; (with_reducible refine (KL.out _).mono ?_); rintro e _ ⟨rfl, v1, rfl⟩) | (go_at_call 5; (with_reducible refine (KM.out _).mono ?_); rintro e _ ⟨rfl, v2, rfl⟩) | (go_at_call 6; (with_reducible refine (KS.out _).mono ?_); rintro e _ ⟨_, rfl, ⟨_, rfl, ⟨adS, cpS, rfl, hIS, hcS⟩⟩, v3, rfl⟩))
  have HIv : Hid (IntsAt v3.val.heap.size v3.val a (ints ls)) := Lib.hid (h.to v3)
  have HIS := Lib.hid hIS
  have HV : Hid (∀ v : Later v3.val.heap.size v3.val, ∃ w : Later B W, w.val = v.val) := Lib.hid (fun v => ⟨v3.up v, rfl⟩)
  clear KL KM KS hIS hcS h hD
  generalize v3.val = V at *
  obtain ⟨x0, eb, hB0, hB1⟩ : ∃ x0 eb : Int, BarIs ls.length (barP ls) x0 eb ∧ ((0 ≤ fbT ls (bit ls.length) ∧ eb = 0 ∧ x0 = fbT ls (bit ls.length)) ∨ (fbT ls (bit ls.length) < 0 ∧ eb = 5 ∧ x0 = 0)) := by
    refine ⟨_, _, fb_bar ls ls.length, ?_⟩
    by_cases c : 0 ≤ fbT ls (bit ls.length)
    · rw [if_pos c]; exact .inl ⟨c, rfl, by omega⟩
    · rw [if_neg c]; exact .inr ⟨by omega, rfl, by omega⟩
  have HB1 := Lib.hid hB1
  have KB := Lib.hid (fun v : Later V.heap.size V => c_bar v m hm ls a cap x0 eb HIv.out h8 hls hL hB0)
  clear hB0 hB1
  have KN := Lib.hid (fun v : Later V.heap.size V => c_lines v m hm ls a cap HIv.out h8 hls hL)
  have KT : Hid (∀ v : Later V.heap.size V, Calls Tryd.prog 10 #[.int .i64 m, .slice a ls.length cap, .func (.func 11) #[] #[]] v.val (RetP V.heap.size V (fun v w => ∃ v1, v = .tuple #[v1, .bool ok] ∧ Reads w.heap.size w v1 (ints xs)))) := Lib.hid (fun v => by
    have := c_stand v m hm ls h8 hls a cap HIv.out
    rw [ints_len] at this
    refine this.mono ?_
    rintro e _ ⟨v', rfl, ⟨v1, hv, hr⟩, w, rfl⟩
    rw [hxs] at hr
    rw [hok] at hv
    exact ⟨_, rfl, ⟨v1, hv, hr⟩, w, rfl⟩)
  obtain ⟨y, hy⟩ : ∃ y : Later V.heap.size V, y.val = V := ⟨Later.self _, rfl⟩
  rw [← hy]
  clear hy
  generalize hfe : fbT ls (bit ls.length) = FB at *
  generalize hl1 : (lnT ls (bit ls.length)).1 = L1 at *
  generalize hl2 : (lnT ls (bit ls.length)).2 = L2 at *
  go_upto_region 9 with (first | (go_at_call 7; (with_reducible refine (KB.out _).mono ?_); rintro e _ ⟨rfl, y, rfl⟩) | (go_at_call 8; (with_reducible refine (KN.out _).mono ?_); rintro e _ ⟨rfl, y, rfl⟩) | (go_at_call 10; (with_reducible refine (KT.out _).mono ?_); rintro e _ ⟨_, rfl, ⟨_, rfl, ⟨adT, cpT, rfl, hIT, hcT⟩⟩, y, rfl⟩))
  have HIT := Lib.hid hIT
  have HIS2 : Hid (IntsAt y.val.heap.size y.val adS (ints xs)) := Lib.hid (HIS.out.to y)
  have HI2 : Hid (IntsAt y.val.heap.size y.val a (ints ls)) := Lib.hid (HIv.out.to y)
  have HV2 : Hid (∀ v : Later y.val.heap.size y.val, ∃ w : Later B W, w.val = v.val) := Lib.hid (fun v => HV.out (y.up v))
  have HOk := Lib.hid hxl
  have HFB := Lib.hid hfe
  have HL1 := Lib.hid hl1
  have HL2 := Lib.hid hl2
  clear KB KN KT hIT hcT HIS HIv HV hxl hok her hxs hfe hl1 hl2
  generalize y.val = V at *
  have KA : Hid (∀ v : Later V.heap.size V, Calls Tryd.prog 13 #[.int .i64 ls.length] v.val (Ret V.heap.size V (.int .i64 ((bit ls.length : Int) - 1)))) := Lib.hid (fun v => by
    have := c_all v (ls.length : Int) (by omega) (by omega)
    rwa [all_nat, show ((bit ls.length - 1 : Nat) : Int) = (bit ls.length : Int) - 1 by omega] at this)
  have KV := Lib.hid (fun (v : Later V.heap.size V) (s : Nat) (hs : s < 256) => c_several v m s ls a cap HI2.out h8 hm hs hls)
  rw [ints_len] at KV
  have KZ := Lib.hid (fun (x : Nat) (hx : x < 256) (w : Later V.heap.size V) => c_size w x hx)
  have KM := Lib.hid (fun v : Later V.heap.size V => c_matching v m hm ls a cap HI2.out h8 hls)
  have KC : Hid (∀ v : Later V.heap.size V, Calls Tryd.prog 9 #[.int .i64 m, .slice a ls.length cap] v.val (Ret V.heap.size V (.int .i64 0))) := Lib.hid (fun v => by
    have := c_hallCheck v m (ints ls) a cap 0 HI2.out (by rw [ints_len]; omega) hL
    rwa [ints_len] at this)
  have HSl : Hid (∀ s, sev ls s < bit m) := Lib.hid (fun s => sevTo_lt hls s (Nat.le_refl _))
  have HLl := Lib.hid (lnT_lt hls)
  have HSF : Hid (∀ k, fbT ls (k + 1) = if fbT ls k < 0 ∧ sz (sev ls k) < sz k then (k : Int) else fbT ls k) := Lib.hid (fun k => rfl)
  have HSL : Hid (∀ s, lnT ls (s + 1) = if sz s + sz (cov ls s) < sz (lnT ls s).1 + sz (lnT ls s).2 then (s, cov ls s) else lnT ls s) := Lib.hid (fun s => rfl)
  have HCv : Hid (∀ s, s < bit ls.length → sev ls (bit ls.length - 1 - s) = cov ls s) := Lib.hid (fun s hs => by unfold cov; rw [nand_sub h8 hs])
  have HF0 : Hid (fbT ls 0 = -1) := Lib.hid rfl
  have HLn0 : Hid (lnT ls 0 = (0, sev ls (bit ls.length - 1))) := Lib.hid rfl
  have KVa := Lib.hid (fun v => KV.out v (bit ls.length - 1) (by omega))
  have hcb : ((bit ls.length - 1 : Nat) : Int) = (bit ls.length : Int) - 1 := by omega
  rw [hcb] at KVa
  have HHi := Lib.hid hls
  clear hL hcb hls HI2
  obtain ⟨y, hy⟩ : ∃ y : Later V.heap.size V, y.val = V := ⟨Later.self _, rfl⟩
  rw [← hy]
  clear hy
  go_wp2_with (first | (go_at_call 13; (with_reducible refine (KA.out _).mono ?_); rintro e _ ⟨rfl, y, rfl⟩) | (go_at_call 12; (with_reducible refine (KVa.out _).mono ?_); rintro e _ ⟨rfl, y, rfl⟩))
  go_loopw [17, 18, 19, 20] (fun b_ u_ v_ i wr => ∃ (j : Nat) (v : Later V.heap.size V), j ≤ bit ls.length ∧ i = .int .i64 j ∧ b_ = .int .i64 (fbT ls j) ∧ u_ = .int .i64 (lnT ls j).1 ∧ v_ = .int .i64 (lnT ls j).2 ∧ wr = v.val) (fun _ _ _ i _ => bit ls.length - (intOf i).toNat)
  case atStart => exact ⟨0, y, by omega, rfl, by rw [HF0.out], by rw [HLn0.out]; rfl, by rw [HLn0.out], rfl⟩
  case round =>
    clear y
    obtain ⟨j, y, hj, rfl, rfl, rfl, rfl, rfl⟩ := hrel
    have KA1 := Lib.hid (KA.out y)
    rcases ile (j : Int) ((bit ls.length : Int) - 1) with ⟨hlt, d0⟩ | ⟨hlt, d0⟩
    · have hjb : j < bit ls.length := by omega
      have KVj := Lib.hid (fun v => KV.out v j (by omega))
      have KVo := Lib.hid (fun v => KV.out v (bit ls.length - 1 - j) (by omega))
      have hcv := HCv.out j hjb
      rw [hcv] at KVo
      have hcb : ((bit ls.length - 1 - j : Nat) : Int) = (bit ls.length : Int) - 1 - j := by omega
      rw [hcb] at KVo
      have ht := HSl.out j
      have ho : cov ls j < bit m := HSl.out _
      obtain ⟨hu, hv⟩ := HLl.out j
      have HF := Lib.hid (HSF.out j)
      have HN := Lib.hid (HSL.out j)
      have hflo : -1 ≤ fbT ls j := by
        rcases fbT_spec ls j with ⟨h1, _⟩ | ⟨b, _, h1, _⟩ <;> omega
      obtain ⟨tU, hU⟩ : ∃ x, x = (lnT ls j).1 := ⟨_, rfl⟩
      obtain ⟨tV, hVv⟩ : ∃ x, x = (lnT ls j).2 := ⟨_, rfl⟩
      rw [← hU, ← hVv] at HN ⊢
      rw [← hU] at hu
      rw [← hVv] at hv
      have HU := Lib.hid hU
      have HVv := Lib.hid hVv
      clear hU hVv hcv hcb
      generalize sev ls j = t at *
      generalize cov ls j = o at *
      obtain ⟨F, hF⟩ : ∃ x, x = fbT ls j := ⟨_, rfl⟩
      rw [← hF] at HF hflo ⊢
      have HFe := Lib.hid hF
      clear hF
      have KZt := Lib.hid (KZ.out t (by omega))
      have KZj := Lib.hid (KZ.out j (by omega))
      have KZo := Lib.hid (KZ.out o (by omega))
      have KZu := Lib.hid (KZ.out tU (by omega))
      have KZv := Lib.hid (KZ.out tV (by omega))
      have z1 := sz_le t
      have z2 := sz_le j
      have z3 := sz_le o
      have z4 := sz_le tU
      have z5 := sz_le tV
      have HNb : Hid ((fbT ls (j + 1) = (j : Int) ∧ F < 0 ∧ sz t < sz j) ∨ (fbT ls (j + 1) = F ∧ ¬ (F < 0 ∧ sz t < sz j))) := Lib.hid (by
        rw [HF.out]
        by_cases c : F < 0 ∧ sz t < sz j
        · rw [if_pos c]; exact .inl ⟨rfl, c⟩
        · rw [if_neg c]; exact .inr ⟨rfl, c⟩)
      have HNl : Hid (((lnT ls (j + 1)).1 = j ∧ (lnT ls (j + 1)).2 = o ∧ sz j + sz o < sz tU + sz tV) ∨ ((lnT ls (j + 1)).1 = tU ∧ (lnT ls (j + 1)).2 = tV ∧ ¬ sz j + sz o < sz tU + sz tV)) := Lib.hid (by
        rw [HN.out]
        by_cases c : sz j + sz o < sz tU + sz tV
        · rw [if_pos c]; exact .inl ⟨rfl, rfl, c⟩
        · rw [if_neg c]; exact .inr ⟨HU.out.symm, HVv.out.symm, c⟩)
      clear HF HN
      generalize sz t = zt at *
      generalize sz j = zj at *
      generalize sz o = zo at *
      generalize sz tU = zu at *
      generalize sz tV = zv at *
      rcases ilt F 0 with ⟨g1, e1⟩ | ⟨g1, e1⟩ <;> rcases nlt zt zj with ⟨g2, e2⟩ | ⟨g2, e2⟩ <;> rcases nlt (zj + zo) (zu + zv) with ⟨g3, e3⟩ | ⟨g3, e3⟩
      all_goals
        have e2' : decide ((zt : Int) < (zj : Int)) = decide (zt < zj) := by simp
        have e3' : decide ((zj : Int) + (zo : Int) < (zu : Int) + (zv : Int)) = decide (zj + zo < zu + zv) := decide_eq_decide.2 (by omega)
        rw [e2] at e2'
        rw [e3] at e3'
        go_wp2_with (first | (go_at_call 13; (with_reducible refine (KA.out _).mono ?_); rintro e _ ⟨rfl, y, rfl⟩) | (go_at_call 12; (with_reducible refine (KVj.out _).mono ?_); rintro e _ ⟨rfl, y, rfl⟩) | (go_at_call 12; (with_reducible refine (KVo.out _).mono ?_); rintro e _ ⟨rfl, y, rfl⟩) | (go_at_call 14; (with_reducible refine (KZt.out _).mono ?_); rintro e _ ⟨rfl, y, rfl⟩) | (go_at_call 14; (with_reducible refine (KZj.out _).mono ?_); rintro e _ ⟨rfl, y, rfl⟩) | (go_at_call 14; (with_reducible refine (KZo.out _).mono ?_); rintro e _ ⟨rfl, y, rfl⟩) | (go_at_call 14; (with_reducible refine (KZu.out _).mono ?_); rintro e _ ⟨rfl, y, rfl⟩) | (go_at_call 14; (with_reducible refine (KZv.out _).mono ?_); rintro e _ ⟨rfl, y, rfl⟩) | fail)
        go_roundw
        case rel =>
          refine ⟨j+1, y, by omega, by go_num, vint ?_, vint ?_, vint ?_, rfl⟩
          · have := HNb.out; omega
          · have := HNl.out; omega
          · have := HNl.out; omega
        case measure => simp [intOf]; omega
    · have hje : j = bit ls.length := by omega
      subst hje
      rw [HFB.out, HL1.out, HL2.out]
      have K1 := Lib.hid (fun (v : Later V.heap.size V) (x : Int) => c_one_yes v x)
      have K2 := Lib.hid (fun (v : Later V.heap.size V) (x : Int) => c_one_no v x 5 (by decide))
      have KBt := Lib.hid (fun v : Later V.heap.size V => (show Calls Tryd.prog 18 #[.bool true, .int .i64 5] v.val (Ret V.heap.size V (.int .i64 0)) from c_bad v true 5))
      have KBf := Lib.hid (fun v : Later V.heap.size V => (show Calls Tryd.prog 18 #[.bool false, .int .i64 5] v.val (Ret V.heap.size V (.int .i64 5)) from c_bad v false 5))
      have KLi : Hid (∀ v : Later V.heap.size V, Calls Tryd.prog 17 #[.slice adS (ints xs).length cpS, .int .i64 er, .slice adT (ints xs).length cpT, .int .i64 er] v.val (Ret V.heap.size V (.bool true))) := Lib.hid (fun v => c_list v (ints xs) (ints xs) adS adT cpS cpT er er HIS2.out HIT.out (by rw [ints_len]; omega) rfl (by
        rcases HOk.out with ⟨_, h1⟩ | ⟨_, h1, h2⟩
        · rw [h1, if_pos rfl]
        · rw [h1, if_neg (by decide), h2]; rfl))
      have hFBlo : -1 ≤ FB := by
        rw [← HFB.out]
        rcases fbT_spec ls (bit ls.length) with ⟨h1, _⟩ | ⟨b, _, h1, _⟩ <;> omega
      rcases HOk.out with ⟨h1, h2⟩ | ⟨h1, h2, h3⟩
      all_goals
        subst h1 h2
        (try clear h3)
        rcases HB1.out with ⟨g1, g2, g3⟩ | ⟨g1, g2, g3⟩
        · obtain ⟨fb, hfb⟩ := Int.eq_ofNat_of_zero_le g1
          rw [hfb] at g3 ⊢
          subst g2 g3
          have e1 : decide ((0 : Int) ≤ (fb : Int)) = true := decide_eq_true (by omega)
          have e2 : max (fb : Int) 0 = (fb : Int) := by omega
          go_wp2_with (first | (go_at_call 13; (with_reducible refine (KA.out _).mono ?_); rintro e _ ⟨rfl, y, rfl⟩) | (go_at_call 9; (with_reducible refine (KC.out _).mono ?_); rintro e _ ⟨rfl, y, rfl⟩) | (go_at_call 16; (with_reducible refine (KM.out _).mono ?_); rintro e _ ⟨rfl, y, rfl⟩) | (go_at_call 15; (with_reducible refine (K1.out _ _).mono ?_); rintro e _ ⟨rfl, y, rfl⟩) | (go_at_call 15; (with_reducible refine (K2.out _ _).mono ?_); rintro e _ ⟨rfl, y, rfl⟩) | (go_at_call 18; (with_reducible refine (KBt.out _).mono ?_); rintro e _ ⟨rfl, y, rfl⟩) | (go_at_call 18; (with_reducible refine (KBf.out _).mono ?_); rintro e _ ⟨rfl, y, rfl⟩) | (go_at_call 17; (with_reducible refine (KLi.out _).mono ?_); rintro e _ ⟨rfl, y, rfl⟩) | fail)
          go_ret
          exact Ret.of (HV2.out y) rfl
        · have hneg : FB = -1 := by omega
          rw [hneg]
          subst g2 g3
          go_wp2_with (first | (go_at_call 13; (with_reducible refine (KA.out _).mono ?_); rintro e _ ⟨rfl, y, rfl⟩) | (go_at_call 9; (with_reducible refine (KC.out _).mono ?_); rintro e _ ⟨rfl, y, rfl⟩) | (go_at_call 16; (with_reducible refine (KM.out _).mono ?_); rintro e _ ⟨rfl, y, rfl⟩) | (go_at_call 15; (with_reducible refine (K1.out _ _).mono ?_); rintro e _ ⟨rfl, y, rfl⟩) | (go_at_call 15; (with_reducible refine (K2.out _ _).mono ?_); rintro e _ ⟨rfl, y, rfl⟩) | (go_at_call 18; (with_reducible refine (KBt.out _).mono ?_); rintro e _ ⟨rfl, y, rfl⟩) | (go_at_call 18; (with_reducible refine (KBf.out _).mono ?_); rintro e _ ⟨rfl, y, rfl⟩) | (go_at_call 17; (with_reducible refine (KLi.out _).mono ?_); rintro e _ ⟨rfl, y, rfl⟩) | fail)
          go_ret
          exact Ret.of (HV2.out y) rfl

theorem law_hallSays {B : Nat} {W : World} (u : Later B W) (hD : Dbr B W) (n : Int) (l : List Int) (a : Option Addr) (cap : Nat) (h : IntsAt B W a l) (hlen : l.length ≤ 4611686018427387904) (hcap : l.length ≤ cap) (hnil : a = none → cap = 0) :
    Calls Tryd.prog 3 #[.int .i64 n, .slice a l.length cap] u.val (Ret B W (.bool true)) := by
  obtain ⟨e, he⟩ := LisIs.ex n l
  by_cases h0 : e = 0
  · subst h0
    obtain ⟨⟨h1, h2, h3⟩, h8⟩ := he.zero
    obtain ⟨m, rfl⟩ := Int.eq_ofNat_of_zero_le h1
    have hi : ∀ i, i < l.length → 0 ≤ l.getD i 0 := fun i hi => (h3 i hi).2.2.1
    have el := ints_toN hi
    have hll : (toN l).length = l.length := by simp [toN]
    have hb := bit_le m (by omega)
    rw [← el] at h he ⊢
    rw [ints_len]
    refine law_hall_yes u m (by omega) (toN l) a cap h hnil (by omega) (fun k hk => ?_) he hD
    have h4 := (h3 k (by omega)).2.2.2
    rw [← el, ints_getD, all_nat] at h4
    omega
  · exact law_hall_no u n l a cap e h hlen he h0

end Go.Proofs.YtdhmponbakodmaaDoor
