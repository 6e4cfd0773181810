/-
  rotalaw.HallRado over a matroid and a list of sets.
-/
import Derived.Test.YtcljgnmlpfddiaaHallLaw
namespace Go.Proofs.Ytcljgnmlpfddiaa
open Go.RowKit
set_option linter.unusedVariables false

set_option maxRecDepth 100000 in
set_option maxHeartbeats 20000000 in
theorem law_hr_yes {B : Nat} {W : World} (u : Later B W) (m : Nat) (hm : m ≤ 8) (l : List Int) (a : Option Addr) (cap : Nat) (ls : List Nat) (b : Option Addr) (capb : Nat) (h : IntsAt B W a l) (hlen : l.length ≤ 4611686018427387904) (he : MatIs (m : Int) l 0)
    (hb : IntsAt B W b (ints ls)) (h8 : ls.length ≤ 8) (hls : ∀ k, k < ls.length → ls.getD k 0 < bit m) (hLs : LisIs (m : Int) (ints ls) 0) (xs : List Nat) (er x eb : Int) (hr : RadoIs (rado m (gRef (toN l)) ls 0) xs er) (hB : BarIs ls.length (barC (toN l) ls) x eb) :
    Calls Try.prog 13 #[.agg #[.int .i64 m, .slice a l.length cap], .slice b (ints ls).length capb] u.val (Ret B W (.bool true)) := by
  have hbm := bit_le m hm
  have hbl := bit_le ls.length h8
  have hfam : isFam (m : Int) l := Classical.byContradiction fun hk => by have := he.1 (fun h => hk h.1); omega
  have T0 : Hid (Two (u.val.alloc (.cells #[.int .i64 m, .slice a l.length cap] 60)) u.val.heap.size 60 (.int .i64 m) (.slice a l.length cap)) := Lib.hid (Two.new _ _ _ _)
  have hI : IntsAt (u.val.alloc (.cells #[.int .i64 m, .slice a l.length cap] 60)).heap.size (u.val.alloc (.cells #[.int .i64 m, .slice a l.length cap] 60)) a l := h.to (u.alloc _)
  have hIb : IntsAt (u.val.alloc (.cells #[.int .i64 m, .slice a l.length cap] 60)).heap.size (u.val.alloc (.cells #[.int .i64 m, .slice a l.length cap] 60)) b (ints ls) := hb.to (u.alloc _)
  have HV : Hid (∀ v : Later (u.val.alloc (.cells #[.int .i64 m, .slice a l.length cap] 60)).heap.size (u.val.alloc (.cells #[.int .i64 m, .slice a l.length cap] 60)), ∃ w : Later B W, w.val = v.val) := Lib.hid (fun v => ⟨(u.alloc _).up v, rfl⟩)
  have q0 : ∀ w : Later (u.val.alloc (.cells #[.int .i64 m, .slice a l.length cap] 60)).heap.size (u.val.alloc (.cells #[.int .i64 m, .slice a l.length cap] 60)), w.val.cell? ⟨u.val.heap.size, 0, none⟩ = some (.int .i64 m) := fun w => (T0.out.keep w.below).c0
  have q1 : ∀ w : Later (u.val.alloc (.cells #[.int .i64 m, .slice a l.length cap] 60)).heap.size (u.val.alloc (.cells #[.int .i64 m, .slice a l.length cap] 60)), w.val.cell? ⟨u.val.heap.size, 1, none⟩ = some (.slice a l.length cap) := fun w => (T0.out.keep w.below).c1
  have p0 : (u.val.alloc (.cells #[.int .i64 m, .slice a l.length cap] 60)).cell? ⟨u.val.heap.size, 0, none⟩ = some (.int .i64 m) := T0.out.c0
  have p1 : (u.val.alloc (.cells #[.int .i64 m, .slice a l.length cap] 60)).cell? ⟨u.val.heap.size, 1, none⟩ = some (.slice a l.length cap) := T0.out.c1
  have KM : Hid (Calls Try.prog 74 #[.agg #[.int .i64 m, .slice a l.length cap]] (u.val.alloc (.cells #[.int .i64 m, .slice a l.length cap] 60)) (Ret (u.val.alloc (.cells #[.int .i64 m, .slice a l.length cap] 60)).heap.size (u.val.alloc (.cells #[.int .i64 m, .slice a l.length cap] 60)) (.int .i64 0))) := Lib.hid (c_refMatroid (Later.self _) m l a cap 0 hI hlen he)
  have KL := Lib.hid (fun v : Later (u.val.alloc (.cells #[.int .i64 m, .slice a l.length cap] 60)).heap.size (u.val.alloc (.cells #[.int .i64 m, .slice a l.length cap] 60)) => c_lists v m (ints ls) b capb 0 hIb (by rw [ints_len]; omega) hLs)
  have hr2 : RadoIs (rado m (gProg (toN l)) ls 0) xs er := by rw [rado_same hm]; exact hr
  have KR := Lib.hid (fun v : Later (u.val.alloc (.cells #[.int .i64 m, .slice a l.length cap] 60)).heap.size (u.val.alloc (.cells #[.int .i64 m, .slice a l.length cap] 60)) => c_rado v m hm l a cap ls b capb hI hlen he hIb h8 hls hLs xs er hr2)
  rw [ints_len] at KL KR
  rw [ints_len]
  go_enter Try.func13, Try.ntmps13
  go_upto_region 5 with (first | (go_at_call 74; ((with_reducible refine (KM.out).mono ?_); rintro e _ ⟨rfl, v1, rfl⟩)) | (go_at_call 82; ((with_reducible refine (KL.out _).mono ?_); rintro e _ ⟨rfl, v1, rfl⟩)) | (go_at_call 83; ((with_reducible refine (KR.out _).mono ?_); rintro e _ ⟨_, rfl, ⟨_, rfl, ⟨ad2, cp2, rfl, hI3, hcp3⟩⟩, v1, rfl⟩)))
  -- behind hall.Rado
  have HI3 := Lib.hid hI3
  have hIv : IntsAt v1.val.heap.size v1.val a l := hI.to v1
  have hIbv : IntsAt v1.val.heap.size v1.val b (ints ls) := hIb.to v1
  have HV1 : Hid (∀ v : Later v1.val.heap.size v1.val, ∃ w : Later B W, w.val = v.val) := Lib.hid (fun v => HV.out (v1.up v))
  have r0 : ∀ w : Later v1.val.heap.size v1.val, w.val.cell? ⟨u.val.heap.size, 0, none⟩ = some (.int .i64 m) := fun w => q0 (v1.up w)
  have r1 : ∀ w : Later v1.val.heap.size v1.val, w.val.cell? ⟨u.val.heap.size, 1, none⟩ = some (.slice a l.length cap) := fun w => q1 (v1.up w)
  clear hI3 hcp3 KM KL KR q0 q1 p0 p1 HV T0 hI hIb h hb hr2
  generalize u.val.heap.size = gu at *
  generalize v1.val = V at *
  have KB := Lib.hid (fun v : Later V.heap.size V => c_radoBar v m hm l a cap ls b capb x eb hIv hlen he hIbv h8 hls hLs hB)
  have KR := Lib.hid (fun v : Later V.heap.size V => c_refRanks v m hm l a cap hIv hlen hfam)
  rw [ints_len] at KB
  obtain ⟨v1, hv1⟩ : ∃ v1 : Later V.heap.size V, v1.val = V := ⟨Later.self _, rfl⟩
  rw [← hv1]
  clear hv1
  go_upto_region 9 with (first | (go_at_call 84; ((with_reducible refine (KB.out _).mono ?_); rintro e _ ⟨rfl, v1, rfl⟩)) | (go_at_call 85; ((with_reducible refine (KR.out _).mono ?_); rintro e _ ⟨_, rfl, ⟨g, c, rfl, hT⟩, v1, rfl⟩)))
  -- behind rotaref.Ranks, with its box
  have hT2 : ITab (v1.val.alloc (.cells #[.slice (some ⟨g, 0, none⟩) (bit m) c] 53)) g (bit m) (fun j => (rk (toN l) j : Int)) := hT.keep ((Below.refl _ _).alloc (Nat.le_refl _) _)
  have hBx : RowAt1 (v1.val.alloc (.cells #[.slice (some ⟨g, 0, none⟩) (bit m) c] 53)) v1.val.heap.size 53 (.slice (some ⟨g, 0, none⟩) (bit m) c) := heap_alloc_new _ _
  have hIb2 : IntsAt (v1.val.alloc (.cells #[.slice (some ⟨g, 0, none⟩) (bit m) c] 53)).heap.size (v1.val.alloc (.cells #[.slice (some ⟨g, 0, none⟩) (bit m) c] 53)) b (ints ls) := hIbv.to (v1.alloc _)
  have HI4 : Hid (IntsAt (v1.val.alloc (.cells #[.slice (some ⟨g, 0, none⟩) (bit m) c] 53)).heap.size (v1.val.alloc (.cells #[.slice (some ⟨g, 0, none⟩) (bit m) c] 53)) ad2 (ints xs)) := Lib.hid (HI3.out.to (v1.alloc _))
  have HV2 : Hid (∀ v : Later (v1.val.alloc (.cells #[.slice (some ⟨g, 0, none⟩) (bit m) c] 53)).heap.size (v1.val.alloc (.cells #[.slice (some ⟨g, 0, none⟩) (bit m) c] 53)), ∃ w : Later B W, w.val = v.val) := Lib.hid (fun v => HV1.out ((v1.alloc _).up v))
  have s0 : (v1.val.alloc (.cells #[.slice (some ⟨g, 0, none⟩) (bit m) c] 53)).cell? ⟨gu, 0, none⟩ = some (.int .i64 m) := r0 (v1.alloc _)
  clear KB KR HV1 HI3 r0 r1 hIv hIbv hT he hlen hfam
  generalize hX : (v1.val.alloc (.cells #[.slice (some ⟨g, 0, none⟩) (bit m) c] 53)) = X at *
  generalize v1.val.heap.size = gb at *
  have hgb : gb < X.heap.size := hBx.lt
  have hgl : g < X.heap.size := hT2.lt
  clear hX
  have KS : Hid (Calls Try.prog 86 #[.int .i64 m, .slice b ls.length capb, .func (.func 87) #[] #[.pointer (some ⟨gb, 0, none⟩)]] X (RetP X.heap.size X (StandRes (rado m (gRef (toN l)) ls 0)))) := Lib.hid (by
    have := c_stand (Later.self X) m hm ls h8 hls (toN l) b capb gb g c hIb2 hgb hgl hBx.c0 hT2
    rwa [ints_len] at this)
  go_upto_region 10 with (first | (go_at_call 86; ((with_reducible refine (KS.out).mono ?_); rintro e _ ⟨_, rfl, ⟨_, rfl, ⟨ad5, cp5, rfl, hI5, hcp5⟩⟩, v2, rfl⟩)))
  -- behind rotaref.Stand
  have HI5 := Lib.hid hI5
  have HI6 : Hid (IntsAt v2.val.heap.size v2.val ad2 (ints xs)) := Lib.hid (HI4.out.to v2)
  have HT : Hid (ITab v2.val g (bit m) (fun j => (rk (toN l) j : Int))) := Lib.hid (hT2.keep v2.below)
  have HBx : Hid (RowAt1 v2.val gb 53 (.slice (some ⟨g, 0, none⟩) (bit m) c)) := Lib.hid (hBx.keep v2.below)
  have hIb3 : IntsAt v2.val.heap.size v2.val b (ints ls) := hIb2.to v2
  have HV3 : Hid (∀ v : Later v2.val.heap.size v2.val, ∃ w : Later B W, w.val = v.val) := Lib.hid (fun v => HV2.out (v2.up v))
  have hxs : Hid (xs.length ≤ 8) := Lib.hid (by
    rcases hr with ⟨h1, _⟩ | ⟨_, h1, _⟩
    · rw [rado_len _ _ _ h1]; exact h8
    · rw [h1]; simp)
  have HRs : Hid (ints ((rado m (gRef (toN l)) ls 0).getD []) = ints xs ∧ ((rado m (gRef (toN l)) ls 0).isSome = true ∧ er = 0 ∨ (rado m (gRef (toN l)) ls 0).isSome = false ∧ er = 5 ∧ xs = [])) := Lib.hid (by
    rcases hr with ⟨h1, _, h2⟩ | ⟨h1, h2, h3⟩
    · rw [h1]; exact ⟨rfl, .inl ⟨rfl, h2⟩⟩
    · rw [h1, h2]; exact ⟨rfl, .inr ⟨rfl, h3, rfl⟩⟩)
  clear hI5 hcp5 KS HV2 hT2 hBx hIb2 HI4 s0 hr hgb hgl
  obtain ⟨hr1, hr2⟩ := HRs.out
  rw [hr1] at HI5 ⊢
  generalize (rado m (gRef (toN l)) ls 0).isSome = ok at *
  have HOk := Lib.hid hr2
  clear hr1 hr2 HRs
  generalize v2.val = V at *
  have KSv := Lib.hid (fun (v : Later V.heap.size V) (s : Nat) (hs : s < 256) => c_several v m s ls b capb hIb3 h8 hm hs hls)
  rw [ints_len] at KSv
  have KS := Lib.hid (fun (v : Later V.heap.size V) (s : Nat) (hs : s < 256) => c_size v s hs)
  have KA : Hid (Calls Try.prog 59 #[.int .i64 ls.length] V (Ret V.heap.size V (.int .i64 ((bit ls.length : Int) - 1)))) := Lib.hid (by
    have := c_all (Later.self V) (ls.length : Int) (by omega) (by omega)
    rwa [all_nat, show ((bit ls.length - 1 : Nat) : Int) = (bit ls.length : Int) - 1 by omega] at this)
  have HSl : Hid (∀ s, sev ls s < bit m) := Lib.hid (fun s => sevTo_lt hls s (Nat.le_refl _))
  have qb : ∀ v : Later V.heap.size V, v.val.cell? ⟨gb, 0, none⟩ = some (.slice (some ⟨g, 0, none⟩) (bit m) c) := fun v => (HBx.out.keep v.below).c0
  have HTw : Hid (∀ (v : Later V.heap.size V) (j : Nat), j < bit m → v.val.cell? ⟨g, j, none⟩ = some (.int .i64 (rk (toN l) j : Int))) := Lib.hid (fun v j hj => (HT.out.keep v.below).cell hj)
  have HBc : Hid (∀ s, barC (toN l) ls s ↔ rk (toN l) (sev ls s) < sz s) := Lib.hid (fun s => Iff.rfl)
  have HB := Lib.hid hB
  have HR8 : Hid (∀ s, rk (toN l) s ≤ 8) := Lib.hid (fun s => by have := rk_le_sz (toN l) s; have := sz_le s; omega)
  clear hIb3 hls hLs HBx HT hB
  generalize toN l = L at *
  generalize hPP : barC L ls = P at *
  clear hPP
  go_wp2_with (first | (go_at_call 59; ((with_reducible refine (KA.out).mono ?_); rintro e _ ⟨rfl, v1, rfl⟩)))
  clear KA
  go_loopw [13, 14] (fun o i wr => ∃ (j : Nat) (sv bv : Int) (v : Later V.heap.size V), j ≤ bit ls.length ∧ sv = (j : Int) - 1 ∧ i = .int .i64 sv ∧ o = .int .i64 bv ∧ wr = v.val ∧ Hid (BarDown ls.length P j bv)) (fun _ i _ => (intOf i + 1).toNat)
  case atStart => exact ⟨bit ls.length, _, -1, v1, by omega, rfl, rfl, rfl, rfl, Lib.hid (.inl ⟨rfl, fun z h1 h2 => by omega⟩)⟩
  case round =>
    obtain ⟨j, sv, bv, v, hj, hsv, rfl, rfl, rfl, HD⟩ := hrel
    cases j with
    | zero =>
      have hsv1 : sv < 0 := by omega
      have d0 : decide ((0 : Int) ≤ sv) = false := decide_eq_false (by omega)
      clear hsv
      have HE := Lib.hid (HD.out.end HB.out)
      have HL := Lib.hid (fun (v : Later V.heap.size V) (e : Int) (he : e = 0 ∨ xs = []) => c_list v (ints xs) (ints xs) ad2 ad5 cp2 cp5 e e HI6.out HI5.out (by have := hxs.out; rw [ints_len]; omega) rfl (by
        by_cases c : e = 0
        · rw [if_pos c]
        · rw [if_neg c]
          rcases he with h | h
          · exact absurd h c
          · rw [h]; rfl))
      have KBt := Lib.hid (fun (v : Later V.heap.size V) (e : Int) => (show Calls Try.prog 14 #[.bool true, .int .i64 e] v.val (Ret V.heap.size V (.int .i64 0)) from c_bad v true e))
      have KBf := Lib.hid (fun (v : Later V.heap.size V) (e : Int) => (show Calls Try.prog 14 #[.bool false, .int .i64 e] v.val (Ret V.heap.size V (.int .i64 e)) from c_bad v false e))
      have HOk1 := Lib.hid (fun (v : Later V.heap.size V) (y : Int) => c_one_yes v y)
      have HOn1 := Lib.hid (fun (v : Later V.heap.size V) (y : Int) => c_one_no v y 5 (by decide))
      have hev : Hid ((ok = true ∧ er = 0) ∨ (ok = false ∧ er = 5 ∧ xs = [])) := Lib.hid (by
        rcases HOk.out with ⟨h1, h2⟩ | ⟨h1, h2, h3⟩
        · exact .inl ⟨h1, h2⟩
        · exact .inr ⟨h1, h2, h3⟩)
      clear HD HB HOk HI5 HI6 KSv KS HSl qb HTw HBc HR8
      rcases HE.out with ⟨h1, h2, h3⟩ | ⟨z, h1, h2, h3, h4⟩
      · subst h2 h3
        have m1 : decide ((0 : Int) ≤ bv) = false := decide_eq_false (by omega)
        have m2 : decide (bv < 0) = true := decide_eq_true (by omega)
        have m3 : decide ((0 : Int) < bv) = false := decide_eq_false (by omega)
        clear h1
        rcases hev.out with ⟨h1, h2⟩ | ⟨h1, h2, h3⟩
        · subst h1 h2
          have HL1 := Lib.hid (fun v => HL.out v 0 (.inl rfl))
          clear hev HE HL
          go_wp2_with (first | (go_at_call 14; ((with_reducible refine (KBt.out _ _).mono ?_); rintro e _ ⟨rfl, v1, rfl⟩)) | (go_at_call 14; ((with_reducible refine (KBf.out _ _).mono ?_); rintro e _ ⟨rfl, v1, rfl⟩)) | (go_at_call 45; ((with_reducible refine (HL1.out _).mono ?_); rintro e _ ⟨rfl, v1, rfl⟩)) | (go_at_call 24; ((with_reducible refine (HOk1.out _ _).mono ?_); rintro e _ ⟨rfl, v1, rfl⟩)) | (go_at_call 24; ((with_reducible refine (HOn1.out _ _).mono ?_); rintro e _ ⟨rfl, v1, rfl⟩)))
          all_goals
            go_ret
            exact Ret.of (HV3.out v1) rfl
        · subst h1 h2
          have HL1 := Lib.hid (fun v => HL.out v 5 (.inr h3))
          clear hev HE HL h3
          go_wp2_with (first | (go_at_call 14; ((with_reducible refine (KBt.out _ _).mono ?_); rintro e _ ⟨rfl, v1, rfl⟩)) | (go_at_call 14; ((with_reducible refine (KBf.out _ _).mono ?_); rintro e _ ⟨rfl, v1, rfl⟩)) | (go_at_call 45; ((with_reducible refine (HL1.out _).mono ?_); rintro e _ ⟨rfl, v1, rfl⟩)) | (go_at_call 24; ((with_reducible refine (HOk1.out _ _).mono ?_); rintro e _ ⟨rfl, v1, rfl⟩)) | (go_at_call 24; ((with_reducible refine (HOn1.out _ _).mono ?_); rintro e _ ⟨rfl, v1, rfl⟩)))
          all_goals
            go_ret
            exact Ret.of (HV3.out v1) rfl
      · subst h1 h3 h4
        have m1 : decide ((0 : Int) ≤ (z : Int)) = true := decide_eq_true (by omega)
        have m2 : decide ((z : Int) < 0) = false := decide_eq_false (by omega)
        rcases hev.out with ⟨h1, h2⟩ | ⟨h1, h2, h3⟩
        · subst h1 h2
          have HL1 := Lib.hid (fun v => HL.out v 0 (.inl rfl))
          clear hev HE HL
          go_wp2_with (first | (go_at_call 14; ((with_reducible refine (KBt.out _ _).mono ?_); rintro e _ ⟨rfl, v1, rfl⟩)) | (go_at_call 14; ((with_reducible refine (KBf.out _ _).mono ?_); rintro e _ ⟨rfl, v1, rfl⟩)) | (go_at_call 45; ((with_reducible refine (HL1.out _).mono ?_); rintro e _ ⟨rfl, v1, rfl⟩)) | (go_at_call 24; ((with_reducible refine (HOk1.out _ _).mono ?_); rintro e _ ⟨rfl, v1, rfl⟩)) | (go_at_call 24; ((with_reducible refine (HOn1.out _ _).mono ?_); rintro e _ ⟨rfl, v1, rfl⟩)))
          all_goals
            go_ret
            exact Ret.of (HV3.out v1) rfl
        · subst h1 h2
          have HL1 := Lib.hid (fun v => HL.out v 5 (.inr h3))
          clear hev HE HL h3
          go_wp2_with (first | (go_at_call 14; ((with_reducible refine (KBt.out _ _).mono ?_); rintro e _ ⟨rfl, v1, rfl⟩)) | (go_at_call 14; ((with_reducible refine (KBf.out _ _).mono ?_); rintro e _ ⟨rfl, v1, rfl⟩)) | (go_at_call 45; ((with_reducible refine (HL1.out _).mono ?_); rintro e _ ⟨rfl, v1, rfl⟩)) | (go_at_call 24; ((with_reducible refine (HOk1.out _ _).mono ?_); rintro e _ ⟨rfl, v1, rfl⟩)) | (go_at_call 24; ((with_reducible refine (HOn1.out _ _).mono ?_); rintro e _ ⟨rfl, v1, rfl⟩)))
          all_goals
            go_ret
            exact Ret.of (HV3.out v1) rfl
    | succ s =>
      have hsv1 : sv = (s : Int) := by omega
      subst hsv1
      clear hsv
      have hs256 : s < 256 := by omega
      have d0 : decide ((0 : Int) ≤ (s : Int)) = true := decide_eq_true (by omega)
      have KSv1 := Lib.hid (fun v => KSv.out v s hs256)
      have KS1 := Lib.hid (fun v => KS.out v s hs256)
      have hlt := HSl.out s
      have c0 : ∀ v : Later V.heap.size V, v.val.cell? ⟨g, sev ls s, none⟩ = some (.int .i64 (rk L (sev ls s) : Int)) := fun v => HTw.out v _ hlt
      have hr8 := HR8.out (sev ls s)
      have hz8 := sz_le s
      have HP := Lib.hid (HBc.out s)
      have w1 := IntWalk.i64_in ((s : Int) - 1) (by omega)
      generalize sev ls s = t at *
      generalize rk L t = p at *
      generalize sz s = q at *
      rcases ilt (p : Int) (q : Int) with ⟨g1, d1⟩ | ⟨g1, d1⟩
      · have d2 : decide (p < q) = true := decide_eq_true (by omega)
        have HD2 : Hid (BarDown ls.length P s (s : Int)) := Lib.hid (.yes (by omega) (HP.out.2 (by omega)))
        clear HD HP g1
        go_wp2
        refine wp_region_later v (by kernel_rfl) (by kernel_rfl) (fun _ => ?_)
        repeat (first | go_big_quiet_step ((first | (go_at_call 88; exact KSv1.out _) | (go_at_call 66; exact KS1.out _))) | (refine wpQuiet_step (fun K hK => ?_); go_simp; refine ⟨_, fun _ => rfl, ?_⟩; refine hK _ ?_; clear hK K))
        refine wpQuiet_nil ?_
        intro v
        go_wp2
        go_roundw
        case rel => exact ⟨s, _, _, v, by omega, rfl, by go_num, rfl, rfl, HD2⟩
        case measure => simp [intOf] <;> omega
      · have d2 : decide (p < q) = false := decide_eq_false (by omega)
        have HD2 := Lib.hid (HD.out.no (fun h => by have := HP.out.1 h; omega))
        clear HD HP g1
        go_wp2
        refine wp_region_later v (by kernel_rfl) (by kernel_rfl) (fun _ => ?_)
        repeat (first | go_big_quiet_step ((first | (go_at_call 88; exact KSv1.out _) | (go_at_call 66; exact KS1.out _))) | (refine wpQuiet_step (fun K hK => ?_); go_simp; refine ⟨_, fun _ => rfl, ?_⟩; refine hK _ ?_; clear hK K))
        refine wpQuiet_nil ?_
        intro v
        go_wp2
        go_roundw
        case rel => exact ⟨s, _, _, v, by omega, rfl, by go_num, rfl, rfl, HD2⟩
        case measure => simp [intOf] <;> omega

end Go.Proofs.Ytcljgnmlpfddiaa
