
/-
  complex.Dual, complex.Link; rotaref.Alexander.
-/
import Derived.Test.YtjpcelldbhdneaaCxD
import Derived.Test.YtjpcelldbhdneaaSrt
import Derived.Test.YtjpcelldbhdneaaRowL
import Derived.Deep.RegionHeld3
namespace Go.Proofs.Ytjpcelldbhdneaa
open Go.RowKit
set_option linter.unusedVariables false

theorem those_isFam {m : Nat} (hm : m ≤ 8) (p : Nat → Bool) : isFam (m : Int) (ints (those m p)) := by
  have hp : 1 ≤ bit m := (bit_le m hm).1
  refine ⟨by omega, by omega, fun i hi => ?_⟩
  rw [ints_len] at hi
  have h1 := (mem_those.1 (getD_memC hi)).1
  rw [ints_getD, ints_getD, all_nat]
  refine ⟨by omega, by omega, fun h0 => ?_⟩
  have h2 := List.pairwise_iff_getElem.1 (those_pwN m p) (i - 1) i (by omega) hi (by omega)
  have e1 : (those m p).getD (i - 1) 0 = (those m p)[i - 1] := by simp [show i - 1 < (those m p).length by omega]
  have e2 : (those m p).getD i 0 = (those m p)[i] := by simp [hi]
  rw [e1, e2]
  omega
theorem those_rising (m : Nat) (p : Nat → Bool) : rising (ints (those m p)) := by
  intro i j hij hj
  rw [ints_len] at hj
  have h2 := List.pairwise_iff_getElem.1 (those_pwN m p) i j (by omega) hj hij
  have e1 : (those m p).getD i 0 = (those m p)[i] := by simp [show i < (those m p).length by omega]
  have e2 : (those m p).getD j 0 = (those m p)[j] := by simp [hj]
  rw [ints_getD, ints_getD, e1, e2]
  omega
theorem mem_intsC {l : List Nat} {s : Nat} : ((s : Int) ∈ ints l) ↔ s ∈ l := by
  rw [mem_ints2]
  constructor
  · rintro ⟨n, h, e⟩
    have : s = n := by omega
    rw [this]; exact h
  · intro h; exact ⟨s, h, rfl⟩
def dualE (M : List Nat) : Int := if M = [] then 5 else 0
def lnkE (M : List Nat) : Int := if M = [] then 1 else 0

set_option maxRecDepth 100000 in
set_option maxHeartbeats 20000000 in
theorem c_cxDual {B : Nat} {W : World} (u : Later B W) (m : Nat) (hm : m ≤ 8) (L : List Nat) (hL : ∀ b, b ∈ L → b < bit m) (hlen : L.length ≤ 1048576) (a : Option Addr) (cap : Nat) (h : IntsAt B W a (ints L)) (hf : isFam m (ints L)) (h0 : cxE L = 0) :
    Calls Try.prog 113 #[.int .i64 m, .slice a (ints L).length cap] u.val (RetP B W (ListE (ints (those m (mostB (alex m L)))) (dualE (alex m L)))) := by
  have hb := bit_le m hm
  have bc := bit_cast m
  have wb : IntKind.i64.wrap (bit m : Int) = (bit m : Int) := IntWalk.i64_in _ (by omega)
  have h256 : ∀ b, b ∈ L → b < 256 := fun b hb' => by have := hL b hb'; omega
  have KC := Lib.hid (c_cxCheck u m L h256 hlen a cap h hf)
  rw [h0] at KC
  have KF := Lib.hid (fun v : Later B W => c_cxFaces0 v m hm L h256 hlen a cap h)
  have HS := Lib.hid (coTo_step m L)
  have HLn := Lib.hid (coTo_len m L)
  have HSrt := Lib.hid (srt_co (m := m) L)
  have HMem := Lib.hid (fun x => @coTo_mem m L x)
  have HRi := Lib.hid (those_rising m (freeB L))
  have HFm : Hid (∀ s, s < bit m → decide (((s : Nat) : Int) ∈ ints (those m (freeB L))) = freeB L s) := Lib.hid (fun s hs => by
    rw [Bool.eq_iff_iff, decide_eq_true_eq, mem_intsC, mem_those]
    exact ⟨fun h => h.2, fun h => ⟨hs, h⟩⟩)
  have HFl : Hid ((ints (those m (freeB L))).length ≤ 256) := Lib.hid (by rw [ints_len]; exact those_len256 hm _)
  have HNf := Lib.hid (fun s (hs : s < bit m) => nand_full hm hs)
  have HDn : Hid (alex m L = [] → ListE (ints (those m (mostB (alex m L)))) (dualE (alex m L)) = ListE [] 5) := Lib.hid (fun e => by
    rw [e, most_nil]; rfl)
  have HDy : Hid (alex m L ≠ [] → dualE (alex m L) = 0) := Lib.hid (fun e => by unfold dualE; rw [if_neg e])
  have HA : Hid (∀ (B : Nat) (W : World) (v : Later B W) (ad : Option Addr) (cp : Nat), IntsAt B W ad (ints (alex m L)) → Calls Try.prog 100 #[.int .i64 m, .slice ad (ints (alex m L)).length cp] v.val (RetP B W (ListE (ints (those m (mostB (alex m L)))) 0))) := Lib.hid (fun B W v ad cp hI => by
    have := c_setsMost v m (alex m L) (fun b hb' => by have := (mem_those.1 hb').1; omega) (by have := those_len256 hm (fun s => !freeB L (bit m - 1 - s)); unfold alex; omega) ad cp hI (those_isFam hm _)
    rw [filt_most (show (alex m L).Pairwise (· < ·) from those_pwN _ _) (fun b hb' => (mem_those.1 hb').1)] at this
    exact listE_of this)
  clear h hf h0 hL h256 hlen
  generalize (ints L).length = q at *
  generalize those m (freeB L) = Fc at *
  generalize hal : alex m L = AL at *
  clear hal
  generalize hco : coTo m L = co at *
  have HC0 : Hid (co 0 = []) := Lib.hid (by rw [← hco]; rfl)
  clear hco
  generalize freeB L = p at *
  go_enter Try.func113, Try.ntmps113
  go_upto_region 5 with (first | (go_at_call 115; (with_reducible refine (KC.out).mono ?_); rintro e _ ⟨rfl, v1, rfl⟩) | (go_at_call 207; (with_reducible refine (KF.out _).mono ?_); rintro e _ ⟨_, rfl, ⟨adF, cpF, rfl, hO⟩, v2, rfl⟩))
  have HF : Hid (IntsAt v2.val.heap.size v2.val adF (ints Fc)) := Lib.hid hO.reads
  have HV : Hid (∀ y : Later v2.val.heap.size v2.val, ∃ w : Later B W, w.val = y.val) := Lib.hid (fun y => ⟨v2.up y, rfl⟩)
  obtain ⟨y, hy⟩ : ∃ y : Later v2.val.heap.size v2.val, y.val = v2.val := ⟨Later.self _, rfl⟩
  rw [← hy]
  clear hy hO KC KF v1 u
  generalize v2.val = V at *
  clear v2
  generalize ints Fc = X at *
  clear Fc
  go_wp2
  go_loopw [8, 23] (fun o i wr => ∃ (s : Nat) (ad : Option Addr) (cp : Nat) (v : Later V.heap.size V), s ≤ bit m ∧ o = .slice ad (ints (co s)).length cp ∧ i = .int .i64 s ∧ wr = v.val ∧ Hid (Own V.heap.size v.val ad cp (ints (co s)))) (fun _ i _ => bit m - (intOf i).toNat)
  case atStart => exact ⟨0, none, 0, y, by omega, by rw [HC0.out]; rfl, rfl, rfl, by rw [HC0.out]; exact Own.nil _ _⟩
  case round =>
    clear y
    obtain ⟨s, ad, cp, v, hk, rfl, rfl, rfl, HO⟩ := hrel
    by_cases hlt : s < bit m
    · have e1 : (s : Int) < (bit m : Int) := by omega
      have KB : Hid (Calls Try.prog 143 #[.slice adF X.length cpF, .int .i64 (s : Int)] v.val (RetP v.val.heap.size v.val (bsPost X (s : Int)))) := Lib.hid (c_bsearch (Later.self v.val) X (s : Int) adF cpF (HF.out.to v) (by have := HFl.out; omega) HRi.out)
      have HD := Lib.hid (HFm.out s hlt)
      have HN := Lib.hid (HNf.out s hlt)
      have HSt := Lib.hid (HS.out s)
      have HL1 : Hid ((ints (co s)).length ≤ 256) := Lib.hid (by rw [ints_len]; have := HLn.out s; omega)
      have o1 := i64_andNot (bit m - 1) s (by omega) (by omega)
      rw [HN.out, show ((bit m - 1 : Nat) : Int) = (bit m : Int) - 1 by omega] at o1
      generalize hz : bit m - 1 - s = z at *
      have Hz := Lib.hid hz
      clear hz
      rcases btf (p s) with g1 | g1
      · rw [g1] at HD
        have HN2 : Hid (co (s + 1) = co s) := Lib.hid (by rw [HSt.out, if_pos g1])
        clear HSt g1
        go_wp2_with (first | (go_at_call 143; (with_reducible refine (KB.out).mono ?_); rintro e _ ⟨_, rfl, ⟨ix, rfl⟩, v1, rfl⟩; rw [HD.out]))
        go_roundw
        case rel => exact ⟨s+1, ad, cp, v.up v1, by omega, by rw [HN2.out], by go_num, rfl, by rw [HN2.out]; exact Lib.hid (HO.out.keep v1.below)⟩
        case measure => simp [intOf]; omega
      · rw [g1] at HD
        have HN2 : Hid (co (s + 1) = co s ++ [z]) := Lib.hid (by rw [HSt.out, if_neg (by rw [g1]; decide)])
        clear HSt g1
        generalize co s = T at *
        go_upto_region 11 with (first | (go_at_call 143; (with_reducible refine (KB.out).mono ?_); rintro e _ ⟨_, rfl, ⟨ix, rfl⟩, v1, rfl⟩; rw [HD.out]))
        have HO1 := Lib.hid (HO.out.keep v1.below)
        obtain ⟨y, hy⟩ : ∃ y : Later V.heap.size V, y.val = v1.val := ⟨v.up v1, rfl⟩
        rw [← hy] at HO1 ⊢
        clear hy KB HO v1
        go_wp2_with (first | (at_builtin; refine wpList_push (B := V.heap.size) (W := V) (w := y.val) y.below y.size rfl _ _ rfl (ints T) ad cp (z : Int) rfl HO1.out rfl (by have := HL1.out; omega) ?_; intro u2 ad2 cp2 hown))
        go_roundw
        case rel => exact ⟨s+1, ad2, cp2, u2, by omega, by rw [HN2.out, ints_snoc]; simp, by go_num, rfl, by rw [HN2.out, ints_snoc]; exact hown⟩
        case measure => simp [intOf]; omega
    · have hke : s = bit m := by omega
      subst hke
      clear HS HFm HNf HF HRi
      have hnl : (ints (co (bit m))).length = (co (bit m)).length := ints_len _
      have HL2 : Hid ((co (bit m)).length ≤ 256) := Lib.hid (by have := HLn.out (bit m); omega)
      by_cases hA : AL = []
      · have hc : co (bit m) = [] := List.eq_nil_iff_forall_not_mem.2 (fun x hx => by
          have := (HMem.out x).1 hx
          rw [hA] at this; cases this)
        have hl0 : (ints (co (bit m))).length = 0 := by rw [hc]; rfl
        rw [hl0]
        have HE := Lib.hid (HDn.out hA)
        clear hl0 hc hA HDn HDy HA HMem HLn HO HSrt HC0 hnl HL2
        go_wp2
        go_ret2
        exact RetP.of (HV.out v) (by rw [HE.out]; exact ListE.no)
      · have hc : co (bit m) ≠ [] := by
          obtain ⟨x, hx⟩ := List.exists_mem_of_ne_nil AL hA
          intro e
          have := (HMem.out x).2 hx
          rw [e] at this; cases this
        have HE := Lib.hid (HDy.out hA)
        have hpos : 0 < (co (bit m)).length := List.length_pos_iff.2 hc
        have hsl := srt_len (ints (co (bit m)))
        rw [HSrt.out] at hsl
        rw [hnl] at hsl ⊢
        have KS : Hid (Calls Try.prog 108 #[.slice ad (co (bit m)).length cp] v.val (fun e w' => e = .returned (.tuple #[]) ∧ ∃ v' : Later V.heap.size V, w' = v'.val ∧ Own V.heap.size v'.val ad cp (ints AL))) := Lib.hid (by
          have := c_sort v (ints (co (bit m))) ad cp HO.out (by rw [hnl]; have := HL2.out; omega)
          rw [hnl] at this
          refine this.mono ?_
          rintro e w ⟨h1, v', h2, h3, _⟩
          rw [HSrt.out] at h3
          exact ⟨h1, v', h2, h3⟩)
        have HA1 := Lib.hid (fun (v : Later V.heap.size V) (h : Own V.heap.size v.val ad cp (ints AL)) => HA.out _ _ (Later.self v.val) ad cp h.reads)
        rw [hsl] at HA1
        clear hc hsl hA HDn HDy HA HMem HLn HO HSrt HC0 hnl
        generalize (co (bit m)).length = nn at *
        have d0 : ((nn : Int) == 0) = false := beq_eq_false_iff_ne.2 (by omega)
        go_upto_region 16 with (first | (go_at_call 108; (with_reducible refine (KS.out).mono ?_); rintro e _ ⟨rfl, v3, rfl, hO3⟩))
        have KM := Lib.hid (HA1.out v3 hO3)
        dsimp only [Later.self] at KM
        clear HA1 KS hO3
        go_wp2_with (first | (go_at_call 100; (with_reducible refine (KM.out).mono ?_); rintro e _ ⟨_, rfl, ⟨_, rfl, ⟨ad4, cp4, rfl, hI4, hc4⟩⟩, v4, rfl⟩))
        go_ret2
        exact RetP.of (HV.out (v3.up v4)) (by rw [HE.out]; exact ⟨_, rfl, ⟨_, _, rfl, hI4, hc4⟩⟩)

set_option maxRecDepth 100000 in
set_option maxHeartbeats 20000000 in
/-- of what is no set -/
theorem c_cxLink_neg {B : Nat} {W : World} (u : Later B W) (m : Nat) (s : Int) (hs : s < 0) (L : List Nat) (h256 : ∀ b, b ∈ L → b < 256) (hlen : L.length ≤ 1048576) (a : Option Addr) (cap : Nat) (h : IntsAt B W a (ints L)) (hf : isFam m (ints L)) (h0 : cxE L = 0) :
    Calls Try.prog 114 #[.int .i64 m, .slice a (ints L).length cap, .int .i64 s] u.val (RetP B W (ListE [] 1)) := by
  have KC := Lib.hid (c_cxCheck u m L h256 hlen a cap h hf)
  rw [h0] at KC
  have HI := Lib.hid h
  clear h hf h0 h256
  have hil : (ints L).length = L.length := ints_len L
  rw [hil] at KC ⊢
  have d0 : decide (0 ≤ s) = false := decide_eq_false (by omega)
  go_enter Try.func114, Try.ntmps114
  go_wp2_with (first | (go_at_call 115; (with_reducible refine (KC.out).mono ?_); rintro e _ ⟨rfl, v1, rfl⟩))
  clear KC u
  go_loopw [9, 20] (fun o i wr => ∃ (k : Nat) (v : Later B W), k ≤ L.length ∧ o = .slice none 0 0 ∧ i = .int .i64 k ∧ wr = v.val) (fun _ i _ => L.length - (intOf i).toNat)
  case atStart => exact ⟨0, v1, by omega, rfl, rfl, rfl⟩
  case round =>
    clear v1
    obtain ⟨k, v, hk, rfl, rfl, rfl⟩ := hrel
    by_cases hlt : k < L.length
    · obtain ⟨b, off, rfl, hbB, hcell⟩ := HI.out.at (k := k) (by rw [ints_len]; exact hlt)
      have c0 : v.val.cell? ⟨b, off + k, none⟩ = some (.int .i64 ((L.getD k 0 : Nat) : Int)) := by rw [← ints_getD]; exact hcell v k (by rw [ints_len]; exact hlt)
      clear hcell
      generalize L.getD k 0 = f at *
      go_wp2
      go_roundw
      case rel => exact ⟨k+1, v, by omega, rfl, by go_num, rfl⟩
      case measure => simp [intOf]; omega
    · go_wp2
      go_ret2
      exact RetP.mk v ListE.no

set_option maxRecDepth 100000 in
set_option maxHeartbeats 20000000 in
theorem c_cxLink {B : Nat} {W : World} (u : Later B W) (m s : Nat) (hs : s < 9223372036854775808) (L : List Nat) (h256 : ∀ b, b ∈ L → b < 256) (hlen : L.length ≤ 1048576) (a : Option Addr) (cap : Nat) (h : IntsAt B W a (ints L)) (hf : isFam m (ints L)) (h0 : cxE L = 0) :
    Calls Try.prog 114 #[.int .i64 m, .slice a (ints L).length cap, .int .i64 s] u.val (RetP B W (ListE (srt (ints (lnkTo L s L.length))) (lnkE (lnkTo L s L.length)))) := by
  have KC := Lib.hid (c_cxCheck u m L h256 hlen a cap h hf)
  rw [h0] at KC
  have HI := Lib.hid h
  have H8 : Hid (∀ k, k < L.length → L.getD k 0 < 256) := Lib.hid (fun k hk => h256 _ (getD_memC hk))
  have HST := Lib.hid (fun k (hk : k < L.length) => lnkTo_step L s hk)
  have HLn := Lib.hid (lnkTo_len L s)
  clear h hf h0 h256
  have hil : (ints L).length = L.length := ints_len L
  rw [hil] at KC ⊢
  have HC0 : Hid (lnkTo L s 0 = []) := Lib.hid rfl
  generalize lnkTo L s = co at *
  go_enter Try.func114, Try.ntmps114
  go_wp2_with (first | (go_at_call 115; (with_reducible refine (KC.out).mono ?_); rintro e _ ⟨rfl, v1, rfl⟩))
  clear KC u
  go_loopw [9, 20] (fun o i wr => ∃ (k : Nat) (ad : Option Addr) (cp : Nat) (v : Later B W), k ≤ L.length ∧ o = .slice ad (ints (co k)).length cp ∧ i = .int .i64 k ∧ wr = v.val ∧ Hid (Own B v.val ad cp (ints (co k)))) (fun _ i _ => L.length - (intOf i).toNat)
  case atStart => exact ⟨0, none, 0, v1, by omega, by rw [HC0.out]; rfl, rfl, rfl, by rw [HC0.out]; exact Own.nil _ _⟩
  case round =>
    clear v1
    obtain ⟨k, ad, cp, v, hk, rfl, rfl, rfl, HO⟩ := hrel
    by_cases hlt : k < L.length
    · obtain ⟨b, off, rfl, hbB, hcell⟩ := HI.out.at (k := k) (by rw [ints_len]; exact hlt)
      have c0 : v.val.cell? ⟨b, off + k, none⟩ = some (.int .i64 ((L.getD k 0 : Nat) : Int)) := by rw [← ints_getD]; exact hcell v k (by rw [ints_len]; exact hlt)
      have h8 := H8.out k hlt
      have HS := Lib.hid (HST.out k hlt)
      have HL1 : Hid ((ints (co k)).length ≤ 1048576) := Lib.hid (by rw [ints_len]; have := HLn.out k; omega)
      have o1 := i64_and (L.getD k 0) s (by omega) hs
      have o2 := i64_andNot (L.getD k 0) s (by omega) hs
      clear hcell
      generalize L.getD k 0 = f at *
      rcases ieq ((f &&& s : Nat) : Int) (s : Int) with ⟨g1, d1, d2⟩ | ⟨g1, d1, d2⟩
      · have HN2 : Hid (co (k + 1) = co k ++ [nand f s]) := Lib.hid (by rw [HS.out, if_pos (by omega)])
        clear HS g1
        generalize f &&& s = z at *
        generalize nand f s = y at *
        generalize co k = T at *
        go_wp2_with (first | (at_builtin; refine wpList_push (B := B) (W := W) (w := v.val) v.below v.size rfl _ _ rfl (ints T) ad cp (y : Int) rfl HO.out rfl (by have := HL1.out; omega) ?_; intro u2 ad2 cp2 hown))
        go_roundw
        case rel => exact ⟨k+1, ad2, cp2, u2, by omega, by rw [HN2.out, ints_snoc]; simp, by go_num, rfl, by rw [HN2.out, ints_snoc]; exact hown⟩
        case measure => simp [intOf]; omega
      · have HN2 : Hid (co (k + 1) = co k) := Lib.hid (by rw [HS.out, if_neg (by omega)])
        clear HS g1
        generalize f &&& s = z at *
        go_wp2
        go_roundw
        case rel => exact ⟨k+1, ad, cp, v, by omega, by rw [HN2.out], by go_num, rfl, by rw [HN2.out]; exact HO⟩
        case measure => simp [intOf]; omega
    · have hke : k = L.length := by omega
      subst hke
      clear H8 HST HI
      have HLn1 := Lib.hid (HLn.out L.length)
      clear HLn HC0
      generalize co L.length = T at *
      have hnl : (ints T).length = T.length := ints_len _
      by_cases hT : T = []
      · have hl0 : (ints T).length = 0 := by rw [hT]; rfl
        have HE : Hid (ListE (srt (ints T)) (lnkE T) = ListE [] 1) := Lib.hid (by unfold lnkE; rw [if_pos hT, hT, show srt (ints []) = [] by simp [srt, ints]])
        rw [hl0]
        clear hl0 hT HO HLn1 hnl
        go_wp2
        go_ret2
        exact RetP.mk v (by rw [HE.out]; exact ListE.no)
      · have HE : Hid (lnkE T = 0) := Lib.hid (by unfold lnkE; rw [if_neg hT])
        have hpos : 0 < T.length := List.length_pos_iff.2 hT
        rw [hnl]
        have hsl : (srt (ints T)).length = T.length := by rw [srt_len, hnl]
        have KS : Hid (Calls Try.prog 108 #[.slice ad T.length cp] v.val (fun e w' => e = .returned (.tuple #[]) ∧ ∃ v' : Later B W, w' = v'.val ∧ Own B v'.val ad cp (srt (ints T)))) := Lib.hid (by
          have := c_sort v (ints T) ad cp HO.out (by rw [hnl]; have := HLn1.out; omega)
          rw [hnl] at this
          refine this.mono ?_
          rintro e w ⟨h1, v', h2, h3, _⟩
          exact ⟨h1, v', h2, h3⟩)
        have Hsl := Lib.hid hsl
        clear hT HO hnl HLn1 hsl
        generalize T.length = nn at *
        have d0 : ((nn : Int) == 0) = false := beq_eq_false_iff_ne.2 (by omega)
        go_wp2_with (first | (go_at_call 108; (with_reducible refine (KS.out).mono ?_); rintro e _ ⟨rfl, v3, rfl, hO3⟩))
        go_ret2
        refine RetP.mk v3 (by rw [HE.out]; exact ⟨_, rfl, ⟨ad, cp, by rw [Hsl.out]; rfl, hO3.reads, hO3.cap⟩⟩)

set_option maxRecDepth 100000 in
set_option maxHeartbeats 4000000 in
theorem c_alexTell {B : Nat} {W : World} (u : Later B W) (m : Nat) (hm : m ≤ 8) (F : List Nat) (hlen : F.length ≤ 256) (cap g0 g : Nat) (a : Option Addr) (s : Nat) (hs : s < bit m) (h : IntsAt B W a (ints F)) (hg0 : g0 < B) (hg : g < B) (hb0 : W.cell? ⟨g0, 0, none⟩ = some (.int .i64 m)) (hbox : W.cell? ⟨g, 0, none⟩ = some (.slice a (ints F).length cap)) :
    Calls Try.prog 204 #[.int .i64 s, .pointer (some ⟨g, 0, none⟩), .pointer (some ⟨g0, 0, none⟩)] u.val (Ret B W (.bool (!decide ((bit m - 1 - s) ∈ F)))) := by
  have hb := bit_le m hm
  have q0 : ∀ u : Later B W, u.val.cell? ⟨g0, 0, none⟩ = some (.int .i64 m) := fun u => by rw [u.cell hg0, hb0]
  have q1 : ∀ u : Later B W, u.val.cell? ⟨g, 0, none⟩ = some (.slice a (ints F).length cap) := fun u => by rw [u.cell hg, hbox]
  have KA : Hid (∀ v : Later B W, Calls Try.prog 123 #[.int .i64 m] v.val (Ret B W (.int .i64 ((bit m - 1 : Nat) : Int)))) := Lib.hid (fun v => by
    have := c_all v (m : Int) (by omega) (by omega)
    rwa [all_nat] at this)
  have KH : Hid (∀ v : Later B W, Calls Try.prog 52 #[.slice a (ints F).length cap, .int .i64 ((bit m - 1 - s : Nat) : Int)] v.val (Ret B W (.bool (decide ((bit m - 1 - s) ∈ F))))) := Lib.hid (fun v => by
    have := c_has v (ints F) ((bit m - 1 - s : Nat) : Int) a cap h (by rw [ints_len]; omega)
    rwa [show decide (((bit m - 1 - s : Nat) : Int) ∈ ints F) = decide ((bit m - 1 - s) ∈ F) by simp only [mem_ints]] at this)
  have w0 : IntKind.i64.wrap (((bit m - 1 : Nat) : Int) - (s : Int)) = ((bit m - 1 - s : Nat) : Int) := by rw [IntWalk.i64_in _ (by omega)]; omega
  clear h hbox hb0
  generalize (ints F).length = q at *
  generalize decide ((bit m - 1 - s) ∈ F) = r at *
  generalize bit m - 1 - s = z at *
  generalize bit m - 1 = y at *
  go_enter Try.func204, Try.ntmps204
  go_wp2
  refine wp_region_later u (by kernel_rfl) (by kernel_rfl) (fun _ => ?_)
  repeat (first | go_big_quiet_step ((first | (go_at_call 123; exact KA.out _) | (go_at_call 52; exact KH.out _))) | (refine wpQuiet_step (fun K hK => ?_); go_simp; refine ⟨_, fun _ => rfl, ?_⟩; refine hK _ ?_; clear hK K))
  refine wpQuiet_nil ?_
  intro u
  go_wp2
  go_ret
  exact Ret.mk u rfl

set_option maxRecDepth 100000 in
set_option maxHeartbeats 8000000 in
theorem c_alexander {B : Nat} {W : World} (u : Later B W) (m : Nat) (hm : m ≤ 8) (L : List Nat) (h256 : ∀ b, b ∈ L → b < 256) (hlen : L.length ≤ 1048576) (a : Option Addr) (cap : Nat) (h : IntsAt B W a (ints L)) :
    Calls Try.prog 106 #[.int .i64 m, .slice a (ints L).length cap] u.val (RetInts B W (ints (those m (mostB (alex m L))))) := by
  have hb := bit_le m hm
  have T0 : RowL (u.val.alloc (.cells #[.int .i64 m] 3)) u.val.heap.size 3 [.int .i64 m] := RowL.new _ _ _
  have hr0 : u.val.heap.size < (u.val.alloc (.cells #[.int .i64 m] 3)).heap.size := by simp
  have HV : Hid (∀ y : Later (u.val.alloc (.cells #[.int .i64 m] 3)).heap.size (u.val.alloc (.cells #[.int .i64 m] 3)), ∃ w : Later B W, w.val = y.val) := Lib.hid (fun y => ⟨(u.alloc _).up y, rfl⟩)
  have KF : Hid (Calls Try.prog 104 #[.int .i64 m, .slice a (ints L).length cap] (u.val.alloc (.cells #[.int .i64 m] 3)) (RetInts (u.val.alloc (.cells #[.int .i64 m] 3)).heap.size (u.val.alloc (.cells #[.int .i64 m] 3)) (ints (those m (freeB L))))) := Lib.hid (c_facesOf (Later.self (u.val.alloc (.cells #[.int .i64 m] 3))) m hm L h256 (by omega) a cap (h.to (u.alloc _)))
  have p0 : (u.val.alloc (.cells #[.int .i64 m] 3)).cell? ⟨u.val.heap.size, 0, none⟩ = some (.int .i64 m) := T0.cell rfl
  have hT0 := Lib.hid T0
  have hAl := Lib.hid (alex_ref m L)
  have hFl := Lib.hid (those_len256 hm (freeB L))
  clear h h256 T0 hlen
  generalize (ints L).length = q at *
  generalize those m (freeB L) = F at *
  have HAl8 : Hid (∀ b, b ∈ alex m L → b < 256) := Lib.hid (fun b hb' => by have := (mem_those.1 hb').1; omega)
  have HAll : Hid ((alex m L).length ≤ 256) := Lib.hid (those_len256 hm _)
  generalize alex m L = AL at *
  go_enter Try.func106, Try.ntmps106
  go_upto_region 2 with (first | (go_at_call 104; (with_reducible refine (KF.out).mono ?_); rintro e _ ⟨_, rfl, ⟨adF, cpF, rfl, hI, _⟩, v1, rfl⟩))
  have T1 : Hid (RowL (v1.val.alloc (.cells #[.slice adF (ints F).length cpF] 22)) v1.val.heap.size 22 [.slice adF (ints F).length cpF]) := Lib.hid (RowL.new _ _ _)
  have T2 : Hid (RowL (v1.val.alloc (.cells #[.slice adF (ints F).length cpF] 22)) u.val.heap.size 3 [.int .i64 m]) := Lib.hid ((hT0.out.keep v1.below).keep ((Later.self v1.val).alloc _).below)
  have hr1 : v1.val.heap.size < (v1.val.alloc (.cells #[.slice adF (ints F).length cpF] 22)).heap.size := by simp
  have hr2 : u.val.heap.size < (v1.val.alloc (.cells #[.slice adF (ints F).length cpF] 22)).heap.size := by have := v1.size; omega
  have HY : Hid (∀ y : Later (v1.val.alloc (.cells #[.slice adF (ints F).length cpF] 22)).heap.size (v1.val.alloc (.cells #[.slice adF (ints F).length cpF] 22)), ∃ w : Later B W, w.val = y.val) := Lib.hid (fun y => HV.out ((v1.alloc _).up y))
  have HI : Hid (IntsAt (v1.val.alloc (.cells #[.slice adF (ints F).length cpF] 22)).heap.size (v1.val.alloc (.cells #[.slice adF (ints F).length cpF] 22)) adF (ints F)) := Lib.hid (hI.to ((Later.self v1.val).alloc _))
  have p1 : ∀ w : Later (v1.val.alloc (.cells #[.slice adF (ints F).length cpF] 22)).heap.size (v1.val.alloc (.cells #[.slice adF (ints F).length cpF] 22)), w.val.cell? ⟨u.val.heap.size, 0, none⟩ = some (.int .i64 m) := fun w => (T2.out.keep w.below).cell rfl
  clear HV KF hT0 hI hr0 p0
  generalize v1.val.heap.size = g1 at *
  generalize u.val.heap.size = g0 at *
  generalize (v1.val.alloc (.cells #[.slice adF (ints F).length cpF] 22)) = Y at *
  clear v1 u
  have KT : Hid (∀ v : Later Y.heap.size Y, Calls Try.prog 58 #[.int .i64 m, .func (.func 204) #[] #[.pointer (some ⟨g1, 0, none⟩), .pointer (some ⟨g0, 0, none⟩)]] v.val (RetInts Y.heap.size Y (ints AL))) := Lib.hid (fun v => by
    rw [← hAl.out]
    refine c_those v m hm 204 _ (fun s => !decide ((bit m - 1 - s) ∈ F)) (fun args w => by kernel_rfl) (fun x w s hs => ?_)
    exact c_alexTell w m hm F hFl.out cpF g0 g1 adF s hs (HI.out.to x) (Nat.lt_of_lt_of_le hr2 x.size) (Nat.lt_of_lt_of_le hr1 x.size) ((T2.out.keep x.below).cell rfl) ((T1.out.keep x.below).cell rfl))
  have KTd : Hid (Calls Try.prog 58 #[.int .i64 m, .func (.func 204) #[] #[.pointer (some ⟨g1, 0, none⟩), .pointer (some ⟨g0, 0, none⟩)]] Y.drew (RetInts Y.heap.size Y (ints AL))) := Lib.hid (KT.out (Later.self Y).drew)
  have t0 : Y.cell? ⟨g0, 0, none⟩ = some (.int .i64 m) := p1 (Later.self Y)
  clear KT hr1 hr2
  go_region_held3 (fun w' => w'.cell? ⟨g0, 0, none⟩ = some (.int .i64 m)) (first | exact t0 | exact p1 y1 | exact p1 (y1.up y2)) (first | (go_at_call 58; refine (KTd.out).mono ?_; rintro e _ ⟨_, rfl, ⟨ad2, cp2, rfl, hI2, hcp2⟩, y1, rfl⟩) | (go_at_call 96; refine (c_mostR (Later.self y1.val) m hm AL HAl8.out (by have := HAll.out; omega) ad2 cp2 hI2).mono ?_; rintro e _ ⟨_, rfl, ⟨ad3, cp3, rfl, hI3, hcp3⟩, y2, rfl⟩))
  go_wp2
  go_ret
  exact RetP.of (HY.out (y1.up y2)) ⟨_, _, rfl, hI3, hcp3⟩

end Go.Proofs.Ytjpcelldbhdneaa
