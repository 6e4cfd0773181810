
/-
  sets.Shadow, sets.Blocker.
-/
import Derived.Test.YtjpcelldbhdneaaPkA
import Derived.Test.YtjpcelldbhdneaaSrt
import Derived.IntWalk
namespace Go.Proofs.Ytjpcelldbhdneaa
open Go.RowKit
set_option linter.unusedVariables false

theorem shr_and3 (x k : Nat) (hx : x < 256) : bits .and .i64 ((x : Int) / 2 ^ k) 1 = (((x.testBit k).toNat : Nat) : Int) := by
  have e1 : ((x : Int) / 2 ^ k) = ((x / 2 ^ k : Nat) : Int) := by simp
  have h1 : x / 2 ^ k ≤ x := Nat.div_le_self _ _
  rw [e1]
  have := i64_and (x / 2 ^ k) 1 (by omega) (by omega)
  rw [show ((1 : Nat) : Int) = 1 from rfl] at this
  rw [this, Nat.and_one_is_mod, Nat.toNat_testBit]
theorem shadTo_lt {m : Nat} {L : List Nat} (hL : ∀ b, b ∈ L → b < bit m) (k s : Nat) (h : s ∈ shadTo m L k) : s < bit m := by
  unfold shadTo at h
  obtain ⟨b, hb, hs⟩ := List.mem_flatMap.1 h
  obtain ⟨i, _, rfl⟩ := List.mem_map.1 hs
  exact nand_lt _ _ _ (hL b (List.mem_of_mem_take hb))
theorem getD_mem {L : List Nat} {k : Nat} (h : k < L.length) : L.getD k 0 ∈ L := by simp [h]

set_option maxRecDepth 100000 in
set_option maxHeartbeats 8000000 in
theorem c_setsShadow {B : Nat} {W : World} (u : Later B W) (m : Nat) (hm : m ≤ 8) (L : List Nat) (hL : ∀ b, b ∈ L → b < bit m) (hlen : L.length ≤ 1048576) (a : Option Addr) (cap : Nat) (h : IntsAt B W a (ints L)) (hf : isFam m (ints L)) :
    Calls Try.prog 101 #[.int .i64 m, .slice a (ints L).length cap] u.val (RetP B W (ListO B (ints (those m (shadB m L))) 0)) := by
  have hb := bit_le m hm
  have HI := Lib.hid h
  have KF : Hid (Calls Try.prog 138 #[.int .i64 m, .slice a (ints L).length cap] u.val (Ret B W (.int .i64 0))) := Lib.hid (by
    have := c_family u m (ints L) a cap h (by rw [ints_len]; omega)
    rwa [show errno (decide (isFam m (ints L))) 1 = 0 by simp [errno, hf]] at this)
  have H8 : Hid (∀ k, k < L.length → L.getD k 0 < 256) := Lib.hid (fun k hk => by have := hL _ (getD_mem hk); omega)
  have e1 : cpt (srt (ints (shadTo m L L.length))) = ints (those m (shadB m L)) := by rw [cpt_srt (shadTo_lt hL L.length)]; exact congrArg ints (shad_is hm hL)
  have hAl : Hid ((ints (those m (shadB m L))).length ≤ 17592186044416) := Lib.hid (by rw [ints_len]; have := thoseTo_len (shadB m L) (bit m); have e : those m (shadB m L) = thoseTo (shadB m L) (bit m) := rfl; rw [e]; omega)
  have hTl : (shadTo m L L.length).length ≤ 8388608 := by have := shadTo_len m hm L L.length; omega
  have K1 : Hid (∀ (v : Later B W) ad cp, Own B v.val ad cp (ints (shadTo m L L.length)) → Calls Try.prog 108 #[.slice ad (ints (shadTo m L L.length)).length cp] v.val (fun e w' => e = .returned (.tuple #[]) ∧ ∃ v2 : Later B W, w' = v2.val ∧ Own B v2.val ad cp (srt (ints (shadTo m L L.length))))) := Lib.hid (fun v ad cp ho => (c_sort v _ ad cp ho (by rw [ints_len]; omega)).mono (by
    rintro e w ⟨h1, v2, h2, h3, _⟩; exact ⟨h1, v2, h2, h3⟩))
  have K2 : Hid (∀ (v : Later B W) ad cp, Own B v.val ad cp (srt (ints (shadTo m L L.length))) → Calls Try.prog 177 #[.slice ad (ints (shadTo m L L.length)).length cp] v.val (fun e w' => e = .returned (.slice ad (ints (those m (shadB m L))).length cp) ∧ ∃ v2 : Later B W, w' = v2.val ∧ Own B v2.val ad cp (ints (those m (shadB m L))))) := Lib.hid (fun v ad cp h => by
    have := c_compact v _ ad cp h
    rw [srt_len, e1] at this
    refine this.mono ?_
    rintro e w ⟨h1, v2, h2, h3, _⟩; exact ⟨h1, v2, h2, h3⟩)
  generalize ints (those m (shadB m L)) = A at *
  have K3 : Hid (∀ (v : Later B W) ad cp, Own B v.val ad cp A → Calls Try.prog 176 #[.slice ad A.length cp] v.val (RetOwn v.val.heap.size v.val A)) := Lib.hid (fun v ad cp h => c_clone (Later.self v.val) A ad cp h.reads hAl.out)
  have HT0 := Lib.hid (shadTo_len m hm L)
  clear e1 h hf hL hTl
  have hil : (ints L).length = L.length := ints_len L
  rw [hil] at KF ⊢
  go_enter Try.func101, Try.ntmps101
  go_upto_region 4 with (first | (go_at_call 138; (with_reducible refine (KF.out).mono ?_); rintro e _ ⟨rfl, v1, rfl⟩))
  clear KF u
  go_wp2
  go_loopw [7, 19] (fun o i wr => ∃ (k : Nat) (ad : Option Addr) (cp : Nat) (v : Later B W), k ≤ L.length ∧ o = .slice ad (ints (shadTo m L k)).length cp ∧ i = .int .i64 k ∧ wr = v.val ∧ Hid (Own B v.val ad cp (ints (shadTo m L k)))) (fun _ i _ => L.length - (intOf i).toNat)
  case atStart => exact ⟨0, none, 0, v1, by omega, rfl, rfl, rfl, Own.nil _ _⟩
  case round =>
    clear v1
    obtain ⟨k, ad, cp, v, hk, rfl, rfl, rfl, HO⟩ := hrel
    by_cases hlt : k < L.length
    · obtain ⟨b, off, rfl, hbB, hcell⟩ := HI.out.at (k := k) (by rw [ints_len]; exact hlt)
      have c0 : ∀ v : Later B W, v.val.cell? ⟨b, off + k, none⟩ = some (.int .i64 ((L.getD k 0 : Nat) : Int)) := fun v => by rw [← ints_getD]; exact hcell v k (by rw [ints_len]; exact hlt)
      have h8 := H8.out k hlt
      have HS := Lib.hid (shadTo_step m L hlt)
      have HLn : Hid ((shadTo m L k).length ≤ 8388608) := Lib.hid (by have := HT0.out k; omega)
      clear hcell
      generalize L.getD k 0 = s at *
      generalize shadTo m L k = T at *
      have HO0 : Hid (Own B v.val ad cp (ints (T ++ shedTo s 0))) := Lib.hid (by simpa [shedTo, elemsTo] using HO.out)
      have hl0 : (ints T).length = (ints (T ++ shedTo s 0)).length := by simp [shedTo, elemsTo]
      rw [hl0]
      clear HO hl0
      go_upto_region 8 with fail
      clear c0
      go_wp2
      go_loopw [7, 24] (fun o i wr => ∃ (j : Nat) (ad : Option Addr) (cp : Nat) (v : Later B W), j ≤ m ∧ o = .slice ad (ints (T ++ shedTo s j)).length cp ∧ i = .int .i64 j ∧ wr = v.val ∧ Hid (Own B v.val ad cp (ints (T ++ shedTo s j)))) (fun _ i _ => m - (intOf i).toNat)
      case atStart => exact ⟨0, ad, cp, v, by omega, rfl, rfl, rfl, HO0⟩
      case round =>
        clear HO0
        obtain ⟨j, ad, cp, v, hj, rfl, rfl, rfl, HO⟩ := hrel
        by_cases hjm : j < m
        · have s1 := shr_and3 s j h8
          have HP := Lib.hid (shedTo_step s j)
          have HL2 : Hid ((ints (T ++ shedTo s j)).length ≤ 8388616) := Lib.hid (by rw [ints_len, List.length_append]; have := shedTo_len s j; have := HLn.out; omega)
          rcases btf (s.testBit j) with g1 | g1
          · rw [g1] at s1 HP
            rw [show ((true.toNat : Nat) : Int) = 1 from rfl] at s1
            have HN : Hid (T ++ shedTo s (j + 1) = (T ++ shedTo s j) ++ [nand s (bit j)]) := Lib.hid (by rw [HP.out]; simp)
            have hbj := bit_lt j (by omega)
            have bc := bit_cast j
            rw [bc] at s1
            have w1 : IntKind.i64.wrap (bit j : Int) = (bit j : Int) := IntWalk.i64_in _ (by omega)
            have o1 := i64_andNot s (bit j) (by omega) (by omega)
            clear HP g1
            generalize T ++ shedTo s j = T2 at *
            generalize nand s (bit j) = x at *
            go_wp2_with (first | (at_builtin; refine wpList_push (B := B) (W := W) (w := v.val) v.below v.size rfl _ _ rfl (ints T2) ad cp (x : Int) rfl HO.out rfl (by have := HL2.out; omega) ?_; intro u2 ad2 cp2 hown))
            go_roundw
            case rel => exact ⟨j+1, ad2, cp2, u2, by omega, by rw [HN.out, ints_snoc]; simp, by go_num, rfl, by rw [HN.out, ints_snoc]; exact hown⟩
            case measure => simp [intOf]; omega
          · rw [g1] at s1 HP
            rw [show ((false.toNat : Nat) : Int) = 0 from rfl] at s1
            have HN : Hid (T ++ shedTo s (j + 1) = T ++ shedTo s j) := Lib.hid (by rw [HP.out]; simp)
            clear HP g1
            generalize T ++ shedTo s j = T2 at *
            go_wp2
            go_roundw
            case rel => exact ⟨j+1, ad, cp, v, by omega, by rw [HN.out], by go_num, rfl, by rw [HN.out]; exact HO⟩
            case measure => simp [intOf]; omega
        · have hje : j = m := by omega
          subst hje
          have HO2 : Hid (Own B v.val ad cp (ints (shadTo j L (k + 1)))) := Lib.hid (by rw [HS.out]; exact HO.out)
          have hl2 : (ints (T ++ shedTo s j)).length = (ints (shadTo j L (k + 1))).length := by rw [HS.out]
          rw [hl2]
          go_wp2
          go_roundw
          case rel => exact ⟨k+1, ad, cp, v, by omega, rfl, by go_num, rfl, HO2⟩
          case measure => simp [intOf]; omega
    · have hke : k = L.length := by omega
      subst hke
      go_wp2_with fail
      refine (K1.out v _ _ HO.out).mono ?_
      rintro e _ ⟨rfl, v1, rfl, hO1⟩
      go_wp2_with fail
      refine (K2.out v1 _ _ hO1).mono ?_
      rintro e _ ⟨rfl, v2, rfl, hO2⟩
      go_wp2_with fail
      refine (K3.out v2 _ _ hO2).mono ?_
      rintro e _ ⟨_, rfl, ⟨ad3, cp3, rfl, hO3⟩, v3, rfl⟩
      go_wp2
      go_ret2
      exact RetP.mk (v2.up v3) ⟨_, _, rfl, hO3.mono v2.size⟩

end Go.Proofs.Ytjpcelldbhdneaa
