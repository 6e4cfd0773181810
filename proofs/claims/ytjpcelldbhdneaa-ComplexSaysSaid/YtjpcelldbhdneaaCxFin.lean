
/-
  rotalaw.ComplexSays: the walk over facets that are right.
-/
import Derived.Test.YtjpcelldbhdneaaCxLaw
namespace Go.Proofs.Ytjpcelldbhdneaa
open Go.RowKit
set_option linter.unusedVariables false

set_option maxRecDepth 100000 in
set_option maxHeartbeats 40000000 in
theorem law_cx_ok {B : Nat} {W : World} (u : Later B W) (m : Nat) (hm : m ≤ 8) (L : List Nat) (hL : ∀ b, b ∈ L → b < bit m) (hpw : L.Pairwise (· < ·)) (hne : L ≠ []) (hlen : L.length ≤ 256) (hf : isFam m (ints L)) (h0 : cxE L = 0) (s : Int) (hs63 : s < 9223372036854775808) (a : Option Addr) (cap : Nat) (h : IntsAt B W a (ints L)) :
    Calls Try.prog 11 #[.int .i64 m, .slice a (ints L).length cap, .int .i64 s] u.val (Ret B W (.bool true)) := by
  have hb := bit_le m hm
  have h256 : ∀ b, b ∈ L → b < 256 := fun b hb' => by have := hL b hb'; omega
  have hl1 : L.length ≤ 1048576 := by omega
  obtain ⟨hq, LK, s', hq1, hK0, hKl, hKy, hKn, hLink⟩ := cx_link m hm L hL hl1 hf h0 s hs63
  have hil : (ints L).length = L.length := ints_len L
  -- what the calls say, in any world
  have KI := Lib.hid (fun (B : Nat) (W : World) (v : Later B W) (h : IntsAt B W a (ints L)) => c_isFacets v m hm L hL hpw hl1 a cap h hf)
  have KFo := Lib.hid (fun (B : Nat) (W : World) (v : Later B W) (h : IntsAt B W a (ints L)) => c_facesOf v m hm L h256 (by omega) a cap h)
  have KCo := Lib.hid (fun (B : Nat) (W : World) (v : Later B W) (h : IntsAt B W a (ints L)) => c_counted v m hm L hL hne hl1 a cap h)
  have KAl := Lib.hid (fun (B : Nat) (W : World) (v : Later B W) (h : IntsAt B W a (ints L)) => c_alexander v m hm L h256 hl1 a cap h)
  have KCk := Lib.hid (fun (B : Nat) (W : World) (v : Later B W) (h : IntsAt B W a (ints L)) => c_cxCheck v m L h256 hl1 a cap h hf)
  have K1 := Lib.hid (fun (B : Nat) (W : World) (v : Later B W) (h : IntsAt B W a (ints L)) => c_cxFaces v m hm L hL hl1 a cap h hf h0)
  have K2 := Lib.hid (fun (B : Nat) (W : World) (v : Later B W) (h : IntsAt B W a (ints L)) => c_cxF v m hm L hL hne hl1 a cap h hf h0)
  have K3 := Lib.hid (fun (B : Nat) (W : World) (v : Later B W) (h : IntsAt B W a (ints L)) => c_cxH v m hm L hL hne hl1 a cap h hf h0)
  have K4 := Lib.hid (fun (B : Nat) (W : World) (v : Later B W) (h : IntsAt B W a (ints L)) => c_cxEuler v m hm L hL hne hl1 a cap h hf h0)
  have K5 := Lib.hid (fun (B : Nat) (W : World) (v : Later B W) (h : IntsAt B W a (ints L)) => c_cxDual v m hm L hL hl1 a cap h hf h0)
  have K6 := Lib.hid (fun (B : Nat) (W : World) (v : Later B W) (h : IntsAt B W a (ints L)) => hLink B W v a cap h)
  -- the plain law
  have hSz := szs_faces hL hne
  have HSg : Hid (eu (tally (those m (freeB L)) (those m (freeB L)).length) (mostTo L L.length + 1) = sg (those m (freeB L)) (those m (freeB L)).length) := Lib.hid (eu_sg _ (fun j hj => by
    have := szs_ge (those m (freeB L)) hj
    omega) _ (Nat.le_refl _))
  rw [HSg.out] at K4
  have HF8 : Hid (∀ i, i < (those m (freeB L)).length → (those m (freeB L)).getD i 0 < 256) := Lib.hid (fun i hi => by
    have := (mem_those.1 (getD_memC hi)).1
    omega)
  have HL8 : Hid (∀ i, i < L.length → L.getD i 0 < 256) := Lib.hid (fun i hi => h256 _ (getD_memC hi))
  have HFl := those_len256 hm (freeB L)
  have hdE : errno (decide (0 < (ints (those m (mostB (alex m L)))).length)) 5 = dualE (alex m L) := by
    unfold dualE
    by_cases hA : alex m L = []
    · rw [if_pos hA, hA, most_nil]; rfl
    · have := most_ne (m := m) (M := alex m L) (fun b hb' => (mem_those.1 hb').1) hA
      rw [if_neg hA, ints_len, decide_eq_true (List.length_pos_iff.2 this)]; rfl
  have hdZ : dualE (alex m L) ≠ 0 → ints (those m (mostB (alex m L))) = [] := fun h => by
    by_cases hA : alex m L = []
    · rw [hA, most_nil]; rfl
    · unfold dualE at h; rw [if_neg hA] at h; exact absurd rfl h
  have hDl : (ints (those m (mostB (alex m L)))).length ≤ 256 := by rw [ints_len]; exact those_len256 hm _
  have hT1 : (tabL (mostTo L L.length + 1) (tally (those m (freeB L)) (those m (freeB L)).length)).length ≤ 16 := by rw [tabL_len]; have := mostTo_le L L.length; omega
  have hT2 : (tabL (mostTo L L.length + 1) (fun t => hs (tally (those m (freeB L)) (those m (freeB L)).length) (mostTo L L.length) t (mostTo L L.length + 1))).length ≤ 16 := by rw [tabL_len]; have := mostTo_le L L.length; omega
  have hFl2 : (ints (those m (freeB L))).length = (those m (freeB L)).length := ints_len _
  have HHas := Lib.hid (fun (B : Nat) (W : World) (v : Later B W) (ad : Option Addr) (cp : Nat) (h : IntsAt B W ad (ints (those m (freeB L)))) => c_has v (ints (those m (freeB L))) s ad cp h (by rw [ints_len]; omega))
  rw [h0] at KI KCk
  have HI := Lib.hid h
  rw [← hq1] at HHas
  rw [hil] at *
  have HKl := Lib.hid hKl
  have HK0 := Lib.hid hK0
  have HKy := Lib.hid hKy
  have HKn := Lib.hid hKn
  clear hLink hSz HSg h256 hL hpw hne hf h0 h hKl hK0 hKy hKn
  generalize tabL (mostTo L L.length + 1) (tally (those m (freeB L)) (those m (freeB L)).length) = TF at *
  generalize tabL (mostTo L L.length + 1) (fun t => hs (tally (those m (freeB L)) (those m (freeB L)).length) (mostTo L L.length) t (mostTo L L.length + 1)) = TH at *
  generalize ints (those m (mostB (alex m L))) = DL at *
  generalize dualE (alex m L) = dE at *
  generalize those m (freeB L) = F at *
  have HdE := Lib.hid hdE
  have HdZ := Lib.hid hdZ
  have HHA := Lib.hid hq1
  clear hdE hdZ hq1
  go_enter Try.func11, Try.ntmps11
  go_upto_region 8 with (first | (go_at_call 103; (with_reducible refine (KI.out _ _ u HI.out).mono ?_); rintro e _ ⟨rfl, v1, rfl⟩) | (go_at_call 104; (refine (KFo.out _ _ (Later.self v1.val) (HI.out.to v1)).mono ?_); rintro e _ ⟨_, rfl, ⟨adA, cpA, rfl, hIA, _⟩, v2, rfl⟩) | (go_at_call 105; (refine (KCo.out _ _ (Later.self v2.val) (HI.out.to (v1.up v2))).mono ?_); rintro e _ ⟨_, rfl, ⟨_, _, rfl, ⟨adf, cpf, rfl, hIf, _⟩, ⟨adh, cph, rfl, hIh, _⟩⟩, v3, rfl⟩))
  have hl : Lists v3.val [(adf, TF), (adh, TH), (adA, ints F)] := (((Lists.nil _).more (hIA.to v3)).more hIh).more hIf
  have HIv : Hid (IntsAt v3.val.heap.size v3.val a (ints L)) := Lib.hid (HI.out.to ((v1.up v2).up v3))
  have HV : Hid (∀ y : Later v3.val.heap.size v3.val, ∃ w : Later B W, w.val = y.val) := Lib.hid (fun y => ⟨((v1.up v2).up v3).up y, rfl⟩)
  have HLs := Lib.hid hl
  obtain ⟨y, hy⟩ : ∃ y : Later v3.val.heap.size v3.val, y.val = v3.val := ⟨Later.self _, rfl⟩
  rw [← hy]
  clear hy hIA hIf hIh HI KI KFo KCo hl
  generalize v3.val = V at *
  clear v3 v2 v1 u
  try rw [hFl2]
  go_wp2
  go_loopw [15, 48] (fun o i wr => ∃ (k : Nat) (v : Later V.heap.size V), k ≤ F.length ∧ o = .int .i64 (sg F k) ∧ i = .int .i64 k ∧ wr = v.val) (fun _ i _ => F.length - (intOf i).toNat)
  case atStart => exact ⟨0, y, by omega, rfl, rfl, rfl⟩
  case round =>
    clear y
    obtain ⟨k, v, hk, rfl, rfl, rfl⟩ := hrel
    by_cases hlt : k < F.length
    · obtain ⟨b, off, rfl, hbB, hcell⟩ := (HLs.out (adA, ints F) (by simp)).at (k := k) (by rw [ints_len]; exact hlt)
      have c0 : v.val.cell? ⟨b, off + k, none⟩ = some (.int .i64 ((F.getD k 0 : Nat) : Int)) := by rw [← ints_getD]; exact hcell v k (by rw [ints_len]; exact hlt)
      have h8 := HF8.out k hlt
      have KS := Lib.hid (c_size v (F.getD k 0) h8)
      have hsb := sg_bd F k
      have HX : Hid (sg F (k + 1) = sg F k + (if sz (F.getD k 0) % 2 = 0 then 1 else -1)) := Lib.hid rfl
      clear hcell K1 K2 K3 K4 K5 K6 KAl KCk HHas
      generalize F.getD k 0 = x at *
      generalize sz x = z at *
      generalize sg F k = p at *
      rcases (show z % 2 = 0 ∨ z % 2 = 1 by omega) with c | c
      · have tm : Int.tmod (z : Int) 2 = 0 := by rw [Int.tmod_eq_emod_of_nonneg (by omega)]; omega
        have HX2 : Hid (sg F (k + 1) = p + 1) := Lib.hid (by rw [HX.out, if_pos c])
        clear HX
        go_wp2_with (first | (go_at_call 44; (with_reducible refine (KS.out).mono ?_); rintro e _ ⟨rfl, v1, rfl⟩))
        go_roundw
        case rel => exact ⟨k+1, v1, by omega, vint HX2.out.symm, by go_num, rfl⟩
        case measure => simp [intOf]; omega
      · have tm : Int.tmod (z : Int) 2 = 1 := by rw [Int.tmod_eq_emod_of_nonneg (by omega)]; omega
        have HX2 : Hid (sg F (k + 1) = p - 1) := Lib.hid (by rw [HX.out, if_neg (by omega)]; omega)
        clear HX
        go_wp2_with (first | (go_at_call 44; (with_reducible refine (KS.out).mono ?_); rintro e _ ⟨rfl, v1, rfl⟩))
        go_roundw
        case rel => exact ⟨k+1, v1, by omega, vint HX2.out.symm, by go_num, rfl⟩
        case measure => simp [intOf]; omega
    · have hke : k = F.length := by omega
      subst hke
      generalize sg F F.length = S at *
      clear HF8 hk hlt
      -- the dual, and whether s is a face
      have hl : Lists v.val [(adf, TF), (adh, TH), (adA, ints F)] := HLs.out.later v
      have KA : Hid (∀ w : Later V.heap.size V, Calls Try.prog 106 #[.int .i64 m, .slice a L.length cap] w.val (RetInts w.val.heap.size w.val DL)) := Lib.hid (fun w => KAl.out _ _ (Later.self w.val) (HIv.out.to w))
      have KB := Lib.hid (fun (w : Later V.heap.size V) (x : Bool) (e : Int) => c_bad w x e)
      have KH : Hid (∀ w : Later V.heap.size V, Calls Try.prog 52 #[.slice adA F.length cpA, .int .i64 s] w.val (Ret w.val.heap.size w.val (.bool hq))) := Lib.hid (fun w => by
        have := HHas.out _ _ (Later.self w.val) adA cpA ((HLs.out.later w) (adA, ints F) (by simp))
        rwa [ints_len] at this)
      obtain ⟨dq, hdq⟩ : ∃ dq, dq = decide (0 < DL.length) := ⟨_, rfl⟩
      have e1 : decide (0 < DL.length) = dq := hdq.symm
      have e2 : decide ((0 : Int) < (DL.length : Int)) = dq := by rw [hdq]; by_cases c : 0 < DL.length <;> simp [c]
      rw [e1] at HdE
      have HdE2 := HdE.out
      have hKB5 : Hid (∀ w : Later V.heap.size V, Calls Try.prog 19 #[.bool dq, .int .i64 5] w.val (Ret w.val.heap.size w.val (.int .i64 dE))) := Lib.hid (fun w => by
        have := c_bad (Later.self w.val) dq 5
        rwa [HdE.out] at this)
      have hKB1 : Hid (∀ w : Later V.heap.size V, Calls Try.prog 19 #[.bool hq, .int .i64 1] w.val (Ret w.val.heap.size w.val (.int .i64 (errno hq 1)))) := Lib.hid (fun w => c_bad (Later.self w.val) hq 1)
      clear KB HHas KAl HdE HdE2 hdq
      generalize hgE : errno hq 1 = gE at *
      have HgE := Lib.hid hgE
      clear hgE
      go_upto_region 18 with (first | (go_at_call 106; (with_reducible refine (threadL v (KA.out v) hl).mono ?_); rintro e _ ⟨v, adD, cpD, rfl, rfl, hl⟩) | (go_at_call 19; (with_reducible refine (thread0 v (hKB5.out v) hl).mono ?_); rintro e _ ⟨v, rfl, rfl, hl⟩) | (go_at_call 52; (with_reducible refine (thread0 v (KH.out v) hl).mono ?_); rintro e _ ⟨v, rfl, rfl, hl⟩) | (go_at_call 19; (with_reducible refine (thread0 v (hKB1.out v) hl).mono ?_); rintro e _ ⟨v, rfl, rfl, hl⟩))
      have HIv2 : Hid (∀ w : Later v.val.heap.size v.val, IntsAt w.val.heap.size w.val a (ints L)) := Lib.hid (fun w => (HIv.out.to v).to w)
      have HV2 : Hid (∀ y : Later v.val.heap.size v.val, ∃ w : Later B W, w.val = y.val) := Lib.hid (fun y => HV.out (v.up y))
      have HLs2 := Lib.hid hl
      obtain ⟨y, hy⟩ : ∃ y : Later v.val.heap.size v.val, y.val = v.val := ⟨Later.self _, rfl⟩
      rw [← hy]
      clear hy hl HIv HV HLs KA KH hKB5 hKB1 e1 e2
      generalize v.val = V2 at *
      go_wp2
      go_loopw [14, 76] (fun o i wr => ∃ (k : Nat) (ad : Option Addr) (cp : Nat) (v : Later V2.heap.size V2), k ≤ L.length ∧ o = .slice ad (ints (LK k)).length cp ∧ i = .int .i64 k ∧ wr = v.val ∧ Hid (Own V2.heap.size v.val ad cp (ints (LK k)))) (fun _ i _ => L.length - (intOf i).toNat)
      case atStart => exact ⟨0, none, 0, y, by omega, by rw [HK0.out]; rfl, rfl, rfl, by rw [HK0.out]; exact Own.nil _ _⟩
      case round =>
        clear y
        obtain ⟨k, ad, cp, v, hk, rfl, rfl, rfl, HO⟩ := hrel
        by_cases hlt : k < L.length
        · clear K1 K2 K3 K4 K5 K6 KCk
          rcases btf hq with g1 | g1
          · obtain ⟨rfl, hs8, hst⟩ := HKy.out g1
            have hge : gE = 0 := by rw [← HgE.out, g1]; rfl
            subst hge
            obtain ⟨b, off, rfl, hbB, hcell⟩ := (HIv2.out (Later.self V2)).at (k := k) (by rw [ints_len]; exact hlt)
            have c0 : ∀ w : Later V2.heap.size V2, w.val.cell? ⟨b, off + k, none⟩ = some (.int .i64 ((L.getD k 0 : Nat) : Int)) := fun w => by rw [← ints_getD]; exact hcell w k (by rw [ints_len]; exact hlt)
            have h8 := HL8.out k hlt
            have HS := Lib.hid (hst k hlt)
            have HL1 : Hid ((ints (LK k)).length ≤ 1048576) := Lib.hid (by rw [ints_len]; have := HKl.out k; omega)
            have KW := Lib.hid (c_within (Later.self v.val) s' (L.getD k 0) (by omega) (by omega))
            dsimp only [Later.self] at KW
            have HSub : Hid (s' ||| L.getD k 0 = L.getD k 0 ↔ L.getD k 0 &&& s' = s') := Lib.hid (by rw [or_eq_iff, Nat.and_comm, and_eq_iff]; exact Iff.rfl)
            have HNs := Lib.hid (fun h => nand_sub h8 hs8 h)
            clear hcell HKn HKy hst HK0 HKl g1
            generalize L.getD k 0 = x at *
            generalize LK k = T at *
            by_cases hc : s' ||| x = x
            · have K1' := Lib.hid (dcall_t KW.out hc)
              have hc2 := HSub.out.1 hc
              have HN2 : Hid (LK (k + 1) = T ++ [x - s']) := Lib.hid (by rw [HS.out, if_pos hc2, HNs.out hc2])
              have hle : s' ≤ x := by
                have : s' ≤ s' ||| x := Nat.left_le_or
                omega
              obtain ⟨z, hz⟩ : ∃ z, z = x - s' := ⟨_, rfl⟩
              rw [← hz] at HN2
              have w1 : ((x : Int) - (s' : Int)) = (z : Int) := by omega
              clear KW HSub HNs HS hc hc2 hz
              go_upto_region 22 with (first | (go_at_call 107; (with_reducible refine (K1'.out).mono ?_); rintro e _ ⟨rfl, v1, rfl⟩))
              have HO1 := Lib.hid (HO.out.keep v1.below)
              obtain ⟨y, hy⟩ : ∃ y : Later V2.heap.size V2, y.val = v1.val := ⟨v.up v1, rfl⟩
              have c1 : y.val.cell? ⟨b, off + k, none⟩ = some (.int .i64 (x : Int)) := c0 y
              rw [← hy] at HO1 ⊢
              clear hy HO K1' v1
              go_wp2_with (first | (at_builtin; refine wpList_push (B := V2.heap.size) (W := V2) (w := y.val) y.below y.size rfl _ _ rfl (ints T) ad cp (z : Int) rfl HO1.out rfl (by have := HL1.out; omega) ?_; intro u2 ad2 cp2 hown))
              go_roundw
              case rel => exact ⟨k+1, ad2, cp2, u2, by omega, by rw [HN2.out, ints_snoc]; simp, by go_num, rfl, by rw [HN2.out, ints_snoc]; exact hown⟩
              case measure => simp [intOf]; omega
            · have K1' := Lib.hid (dcall_f KW.out hc)
              have HN2 : Hid (LK (k + 1) = T) := Lib.hid (by rw [HS.out, if_neg (fun h => hc (HSub.out.2 h))])
              clear KW HSub HNs HS hc
              go_wp2_with (first | (go_at_call 107; (with_reducible refine (K1'.out).mono ?_); rintro e _ ⟨rfl, v1, rfl⟩))
              go_roundw
              case rel => exact ⟨k+1, ad, cp, v.up v1, by omega, by rw [HN2.out], by go_num, rfl, by rw [HN2.out]; exact Lib.hid (HO.out.keep v1.below)⟩
              case measure => simp [intOf]; omega
          · have hge : gE = 1 := by rw [← HgE.out, g1]; rfl
            subst hge
            have e1 := HKn.out g1 k
            have e2 := Lib.hid (HKn.out g1 (k + 1))
            rw [e1] at HO ⊢
            clear e1 HKy HKn HK0 HKl g1
            go_wp2
            go_roundw
            case rel => exact ⟨k+1, ad, cp, v, by omega, by rw [e2.out], by go_num, rfl, by rw [e2.out]; exact HO⟩
            case measure => simp [intOf]; omega
        · have hke : k = L.length := by omega
          subst hke
          have hKl1 : (ints (LK L.length)).length ≤ 256 := by rw [ints_len]; have := HKl.out L.length; omega
          have hgz : gE ≠ 0 → srt (ints (LK L.length)) = [] := fun h => by
            rcases btf hq with g1 | g1
            · rw [g1] at HgE; exact absurd HgE.out.symm h
            · rw [HKn.out g1]; simp [srt, ints]
          have hsl : (srt (ints (LK L.length))).length = (ints (LK L.length)).length := srt_len _
          have KS : Hid (Calls Try.prog 108 #[.slice ad (ints (LK L.length)).length cp] v.val (fun e w' => e = .returned (.tuple #[]) ∧ ∃ v' : Later V2.heap.size V2, w' = v'.val ∧ Own V2.heap.size v'.val ad cp (srt (ints (LK L.length))))) := Lib.hid (by
            refine (c_sort v (ints (LK L.length)) ad cp HO.out (by omega)).mono ?_
            rintro e w ⟨h1, v', h2, h3, _⟩
            exact ⟨h1, v', h2, h3⟩)
          clear HO HKy HKn HK0 HKl HL8 HgE HHA
          rw [← hsl] at KS ⊢
          have hKl2 : (srt (ints (LK L.length))).length ≤ 256 := by omega
          clear hsl hKl1 hk hlt
          generalize srt (ints (LK L.length)) = KL at *
          go_upto_region 25 with (first | (go_at_call 108; (with_reducible refine (KS.out).mono ?_); rintro e _ ⟨rfl, v3, rfl, hO3⟩))
          have hl : Lists v3.val [(ad, KL), (adD, DL), (adf, TF), (adh, TH), (adA, ints F)] := (HLs2.out.later v3).more hO3.reads
          clear KS hO3 HLs2
          have P1 : Hid (∀ w : Later V2.heap.size V2, Calls Try.prog 109 #[.int .i64 m, .slice a L.length cap] w.val (RetP w.val.heap.size w.val (ListE (ints F) 0))) := Lib.hid (fun w => K1.out _ _ (Later.self w.val) (HIv2.out w))
          have P2 : Hid (∀ w : Later V2.heap.size V2, Calls Try.prog 110 #[.int .i64 m, .slice a L.length cap] w.val (RetP w.val.heap.size w.val (ListE TF 0))) := Lib.hid (fun w => K2.out _ _ (Later.self w.val) (HIv2.out w))
          have P3 : Hid (∀ w : Later V2.heap.size V2, Calls Try.prog 111 #[.int .i64 m, .slice a L.length cap] w.val (RetP w.val.heap.size w.val (ListE TH 0))) := Lib.hid (fun w => K3.out _ _ (Later.self w.val) (HIv2.out w))
          have P4 : Hid (∀ w : Later V2.heap.size V2, Calls Try.prog 112 #[.int .i64 m, .slice a L.length cap] w.val (Ret w.val.heap.size w.val (.tuple #[.int .i64 S, .int .i64 0]))) := Lib.hid (fun w => K4.out _ _ (Later.self w.val) (HIv2.out w))
          have P5 : Hid (∀ w : Later V2.heap.size V2, Calls Try.prog 113 #[.int .i64 m, .slice a L.length cap] w.val (RetP w.val.heap.size w.val (ListE DL dE))) := Lib.hid (fun w => K5.out _ _ (Later.self w.val) (HIv2.out w))
          have P6 : Hid (∀ w : Later V2.heap.size V2, Calls Try.prog 114 #[.int .i64 m, .slice a L.length cap, .int .i64 s] w.val (RetP w.val.heap.size w.val (ListE KL gE))) := Lib.hid (fun w => K6.out _ _ (Later.self w.val) (HIv2.out w))
          have P7 : Hid (∀ w : Later V2.heap.size V2, Calls Try.prog 115 #[.int .i64 m, .slice a L.length cap] w.val (Ret w.val.heap.size w.val (.int .i64 0))) := Lib.hid (fun w => KCk.out _ _ (Later.self w.val) (HIv2.out w))
          have P8 : Hid (∀ w : Later V2.heap.size V2, Calls Try.prog 30 #[.int .i64 S, .int .i64 0, .int .i64 S, .int .i64 0] w.val (Ret w.val.heap.size w.val (.bool true))) := Lib.hid (fun w => c_one_yes (Later.self w.val) S)
          clear K1 K2 K3 K4 K5 K6 KCk HIv2
          have HdZ' := HdZ.out
          have hF4 : (ints F).length ≤ 4611686018427387904 := by rw [ints_len]; omega
          have hT14 : TF.length ≤ 4611686018427387904 := by omega
          have hT24 : TH.length ≤ 4611686018427387904 := by omega
          have hD4 : DL.length ≤ 4611686018427387904 := by omega
          have hK4 : KL.length ≤ 4611686018427387904 := by omega
          have h00 : ∀ {X : List Int}, (0 : Int) ≠ 0 → X = [] := fun h => absurd rfl h
          obtain ⟨v, hv⟩ : ∃ v : Later V2.heap.size V2, v.val = v3.val := ⟨v3, rfl⟩
          rw [← hv] at hl ⊢
          clear hv v3
          rw [← hFl2]
          clear hFl2 HFl
          generalize ints F = FA at *
          go_wp2_with (first | (go_at_call 109; (with_reducible refine (threadE v (P1.out v) hl).mono ?_); rintro e _ ⟨v, ad, cp, rfl, rfl, hl⟩) | (go_at_call 110; (with_reducible refine (threadE v (P2.out v) hl).mono ?_); rintro e _ ⟨v, ad, cp, rfl, rfl, hl⟩) | (go_at_call 111; (with_reducible refine (threadE v (P3.out v) hl).mono ?_); rintro e _ ⟨v, ad, cp, rfl, rfl, hl⟩) | (go_at_call 112; (with_reducible refine (thread0 v (P4.out v) hl).mono ?_); rintro e _ ⟨v, rfl, rfl, hl⟩) | (go_at_call 113; (with_reducible refine (threadE v (P5.out v) hl).mono ?_); rintro e _ ⟨v, ad, cp, rfl, rfl, hl⟩) | (go_at_call 114; (with_reducible refine (threadE v (P6.out v) hl).mono ?_); rintro e _ ⟨v, ad, cp, rfl, rfl, hl⟩) | (go_at_call 115; (with_reducible refine (thread0 v (P7.out v) hl).mono ?_); rintro e _ ⟨v, rfl, rfl, hl⟩) | (go_at_call 30; (with_reducible refine (thread0 v (P8.out v) hl).mono ?_); rintro e _ ⟨v, rfl, rfl, hl⟩) | (go_at_call 29; (with_reducible refine (thread_listE v _ _ _ _ _ _ hl (by simp) (by simp) (by assumption) (by first | exact h00 | assumption)).mono ?_); rintro e _ ⟨v, rfl, rfl, hl⟩))
          go_ret
          exact Ret.of (HV2.out v) rfl

theorem law_complexSays {B : Nat} {W : World} (u : Later B W) (n : Int) (l : List Int) (s : Int) (hs : s < 9223372036854775808) (a : Option Addr) (cap : Nat) (h : IntsAt B W a l) (hlen : l.length ≤ 4611686018427387904) :
    Calls Try.prog 11 #[.int .i64 n, .slice a l.length cap, .int .i64 s] u.val (Ret B W (.bool true)) := by
  by_cases hf : isFam n l
  · obtain ⟨m, L, rfl, hm, rfl, hL, hpw, hl2, hf2⟩ := fam_open hf
    have hb := bit_le m hm
    have h256 : ∀ b, b ∈ L → b < 256 := fun b hb' => by have := hL b hb'; omega
    by_cases h0 : cxE L = 0
    · have hne : L ≠ [] := by
        rintro rfl
        exact absurd h0 (by decide)
      exact law_cx_ok u m hm L hL hpw hne hl2 hf2 h0 s hs a cap h
    · exact law_cx_no u m s (ints L) hlen a cap h (cxE L) h0 (fun v => c_isFacets v m hm L hL hpw (by omega) a cap h hf2) (fun v => c_cxCheck v m L h256 (by omega) a cap h hf2)
  · exact law_cx_no u n s l hlen a cap h 1 (by decide) (fun v => c_isFacets_no v n l hlen a cap h hf) (fun v => c_cxCheck_no v n l hlen a cap h hf)

end Go.Proofs.Ytjpcelldbhdneaa
