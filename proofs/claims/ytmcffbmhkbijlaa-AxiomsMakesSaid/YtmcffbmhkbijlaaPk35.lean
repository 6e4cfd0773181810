
/-
  The function values of axioms.OfFlats.
-/
import Derived.Test.YtmcffbmhkbijlaaPk30
import Derived.Test.YtmcffbmhkbijlaaPk32
namespace Go.Proofs.Ytmcffbmhkbijlaa
open Go.RowKit
set_option linter.unusedVariables false

set_option maxRecDepth 100000 in
set_option maxHeartbeats 4000000 in
theorem c_ofHull {B : Nat} {W : World} (u : Later B W) (n : Nat) (hn : n ≤ 8) (L : List Nat) (h8 : ∀ x, x ∈ L → x < 256) (hlen : L.length ≤ 4611686018427387904) (cap g1 g2 : Nat) (a : Option Addr) (s : Nat) (hs : s < 256) (h : IntsAt B W a (ints L)) (hg1 : g1 < B) (hg2 : g2 < B) (hbox1 : W.cell? ⟨g1, 0, none⟩ = some (.int .i64 n)) (hbox : W.cell? ⟨g2, 0, none⟩ = some (.slice a L.length cap)) :
    Calls Try.prog 27 #[.int .i64 s, .pointer (some ⟨g1, 0, none⟩), .pointer (some ⟨g2, 0, none⟩)] u.val (Ret B W (.int .i64 (hul n L s))) := by
  have hbn := bit_le n hn
  have bc := bit_cast n
  have w1 := IntWalk.i64_in (bit n : Int) (by omega)
  have w2 := IntWalk.i64_in ((bit n : Int) - 1) (by omega)
  have q1 : ∀ w : Later B W, w.val.cell? ⟨g2, 0, none⟩ = some (.slice a L.length cap) := fun w => by rw [w.cell hg2, hbox]
  have q0 : u.val.cell? ⟨g1, 0, none⟩ = some (.int .i64 n) := by rw [u.cell hg1, hbox1]
  have q1u := q1 u
  have HI := Lib.hid h
  have H8 : Hid (∀ k, k < L.length → L.getD k 0 < 256) := Lib.hid (fun k hk => h8 _ (by simp [hk]))
  have HLt : Hid (∀ k, hulTo n L s k < 256) := Lib.hid (fun k => nat8 hn (hulTo_lt n L s k))
  have HSt : Hid (∀ k, hulTo n L s (k + 1) = if s ||| L.getD k 0 = L.getD k 0 then hulTo n L s k &&& L.getD k 0 else hulTo n L s k) := Lib.hid (fun k => rfl)
  have H0 : Hid (((hulTo n L s 0 : Nat) : Int) = (bit n : Int) - 1) := Lib.hid (by show ((bit n - 1 : Nat) : Int) = _; omega)
  have HE : Hid (hul n L s = hulTo n L s L.length) := Lib.hid rfl
  rw [HE.out]
  clear h h8 hbox hbox1 HE
  generalize hulTo n L s = T at *
  go_enter Try.func27, Try.ntmps27
  go_wp2
  go_loopw [5, 13] (fun o i wr => ∃ (k : Nat) (v : Later B W), k ≤ L.length ∧ o = .int .i64 (T k) ∧ i = .int .i64 k ∧ wr = v.val) (fun _ i _ => L.length - (intOf i).toNat)
  case atStart => exact ⟨0, u, by omega, by rw [H0.out], rfl, rfl⟩
  case round =>
    clear q0 q1u u
    obtain ⟨k, v, hk, rfl, rfl, rfl⟩ := hrel
    by_cases hlt : k < L.length
    · obtain ⟨bb, off, rfl, hbB, hcell⟩ := HI.out.at (k := k) (by rw [ints_len]; exact hlt)
      have c0 : v.val.cell? ⟨bb, off + k, none⟩ = some (.int .i64 ((L.getD k 0 : Nat) : Int)) := by rw [← ints_getD]; exact hcell v k (by rw [ints_len]; exact hlt)
      have hx := H8.out k hlt
      have ht := HLt.out k
      have hst := HSt.out k
      clear hcell
      generalize L.getD k 0 = x at *
      have o1 := i64_and s x (by omega) (by omega)
      have o2 := i64_and (T k) x (by omega) (by omega)
      by_cases hsub : s ||| x = x
      · rw [if_pos hsub] at hst
        have hd : (((s &&& x : Nat) : Int) == (s : Int)) = true := by rw [beq_iff_eq]; have := and_eq_sub.2 (or_eq_sub.1 hsub); omega
        have HN := Lib.hid hst
        clear hst hsub
        generalize T k = tk at *
        generalize tk &&& x = tn at *
        generalize s &&& x = sx at *
        go_wp2
        go_roundw
        case rel => exact ⟨k+1, v, by omega, vint (by rw [HN.out]), by go_num, rfl⟩
        case measure => simp [intOf]; omega
      · rw [if_neg hsub] at hst
        have hd : (((s &&& x : Nat) : Int) == (s : Int)) = false := by
          rw [beq_eq_false_iff_ne]
          intro c
          exact hsub (or_eq_sub.2 (and_eq_sub.1 (by omega)))
        have HN := Lib.hid hst
        clear hst hsub o2
        generalize T k = tk at *
        generalize s &&& x = sx at *
        go_wp2
        go_roundw
        case rel => exact ⟨k+1, v, by omega, vint (by rw [HN.out]), by go_num, rfl⟩
        case measure => simp [intOf]; omega
    · have hke : k = L.length := by omega
      subst hke
      go_wp2
      go_ret
      exact Ret.mk v rfl

set_option maxRecDepth 100000 in
set_option maxHeartbeats 4000000 in
theorem c_ofFlatTell {B : Nat} {W : World} (u : Later B W) (n : Nat) (hn : n ≤ 8) (L : List Nat) (h8 : ∀ x, x ∈ L → x < 256) (hlen : L.length ≤ 4611686018427387904) (cap g1 g2 g3 : Nat) (a : Option Addr) (s : Nat) (hs : s < bit n) (h : IntsAt B W a (ints L)) (hg1 : g1 < B) (hg2 : g2 < B) (hg3 : g3 < B) (hbox1 : W.cell? ⟨g1, 0, none⟩ = some (.int .i64 n)) (hbox : W.cell? ⟨g2, 0, none⟩ = some (.slice a L.length cap)) (hbox3 : W.cell? ⟨g3, 0, none⟩ = some (.func (.func 27) #[] #[.pointer (some ⟨g1, 0, none⟩), .pointer (some ⟨g2, 0, none⟩)])) :
    Calls Try.prog 28 #[.int .i64 s, .pointer (some ⟨g1, 0, none⟩), .pointer (some ⟨g3, 0, none⟩)] u.val (Ret B W (.bool (PF n L s))) := by
  have hbn := bit_le n hn
  have KH : Hid (∀ (w : Later B W) (t : Nat), t < 256 → Calls Try.prog 27 #[.int .i64 t, .pointer (some ⟨g1, 0, none⟩), .pointer (some ⟨g2, 0, none⟩)] w.val (Ret B W (.int .i64 (hul n L t)))) := Lib.hid (fun w t ht => c_ofHull w n hn L h8 hlen cap g1 g2 a t ht h hg1 hg2 hbox1 hbox)
  have q0 : ∀ w : Later B W, w.val.cell? ⟨g1, 0, none⟩ = some (.int .i64 n) := fun w => by rw [w.cell hg1, hbox1]
  have q3 : ∀ w : Later B W, w.val.cell? ⟨g3, 0, none⟩ = some (.func (.func 27) #[] #[.pointer (some ⟨g1, 0, none⟩), .pointer (some ⟨g2, 0, none⟩)]) := fun w => by rw [w.cell hg3, hbox3]
  have HP : Hid (PF n L s = true ↔ ∀ i, s.testBit i = true → (hul n L (nand s (bit i))).testBit i = false) := Lib.hid (PF_iff hs)
  have HBn : Hid (∀ i, s.testBit i = true → i < n) := Lib.hid (fun i hi => bitM_in hs hi)
  have HLt : Hid (∀ t, hul n L t < 256) := Lib.hid (fun t => nat8 hn (hul_lt n L t))
  have hs8 : s < 256 := by omega
  have q0u := q0 u
  have hp1 : ∀ (args : Array Value) (w : World), (callFunc 27 args).run Try.prog w = .ok (.enter 27 args) w := fun _ _ => by kernel_rfl
  clear h hbox hbox1 hbox3 h8 hs
  generalize PF n L s = d at *
  go_enter Try.func28, Try.ntmps28
  go_wp2
  go_loopw [7] (fun i wr => ∃ (k : Nat) (v : Later B W), k ≤ n ∧ i = .int .i64 k ∧ wr = v.val ∧ Hid (∀ i, i < k → s.testBit i = true → (hul n L (nand s (bit i))).testBit i = false)) (fun i _ => n - (intOf i).toNat)
  case atStart => exact ⟨0, u, by omega, rfl, rfl, Lib.hid (fun i hi => by omega)⟩
  case round =>
    clear q0u u
    obtain ⟨k, v, hk, rfl, rfl, HN⟩ := hrel
    by_cases hlt : k < n
    · have s1 := shr_and s k (by omega)
      rcases btf (s.testBit k) with g1' | g1'
      · rw [g1'] at s1
        rw [show ((true.toNat : Nat) : Int) = 1 from rfl] at s1
        have hbk := bit_lt k (by omega)
        have bk := bit_cast k
        rw [bk] at s1
        have w1 := IntWalk.i64_in (bit k : Int) (by omega)
        have o1 := i64_andNot s (bit k) (by omega) (by omega)
        have ht8 : nand s (bit k) < 256 := by
          have := nand_bit_lt (show s < 256 by omega) (show k < 8 by omega) g1'
          omega
        have KH1 := Lib.hid (fun w : Later B W => KH.out w (nand s (bit k)) ht8)
        have hh8 := HLt.out (nand s (bit k))
        have s2 := shr_and (hul n L (nand s (bit k))) k hh8
        rw [bk] at s2
        have HB : Hid ((hul n L (nand s (bit k))).testBit k = true → d = false) := Lib.hid (fun h => by
          cases hd : d
          · rfl
          · have := HP.out.1 hd k g1'
            rw [h] at this; cases this)
        have HG : Hid ((hul n L (nand s (bit k))).testBit k = false → ∀ i, i < k + 1 → s.testBit i = true → (hul n L (nand s (bit i))).testBit i = false) := Lib.hid (fun h i hi h2 => by
          by_cases e : i = k
          · subst e; exact h
          · exact HN.out i (by omega) h2)
        clear KH HLt
        generalize hul n L (nand s (bit k)) = hv at *
        generalize nand s (bit k) = t at *
        go_upto_region 4 with fail
        rcases btf (hv.testBit k) with g2' | g2'
        · rw [g2'] at s2
          rw [show ((true.toNat : Nat) : Int) = 1 from rfl] at s2
          have hd := HB.out g2'
          subst hd
          clear HB HG g1' g2' HN
          refine wp_region_later v (by kernel_rfl) (by kernel_rfl) (fun _ => ?_)
          repeat (first | go_big_quiet_step (((go_at_call 27; exact (KH1.out _)))) | (refine wpQuiet_step (fun K hK => ?_); go_simp; refine ⟨_, fun _ => rfl, ?_⟩; refine hK _ ?_; clear hK K))
          refine wpQuiet_nil ?_
          intro v
          go_wp2
          go_ret
          exact Ret.mk v rfl
        · rw [g2'] at s2
          rw [show ((false.toNat : Nat) : Int) = 0 from rfl] at s2
          have HN2 := Lib.hid (HG.out g2')
          clear HB HG g1' g2' HN
          refine wp_region_later v (by kernel_rfl) (by kernel_rfl) (fun _ => ?_)
          repeat (first | go_big_quiet_step (((go_at_call 27; exact (KH1.out _)))) | (refine wpQuiet_step (fun K hK => ?_); go_simp; refine ⟨_, fun _ => rfl, ?_⟩; refine hK _ ?_; clear hK K))
          refine wpQuiet_nil ?_
          intro v
          go_wp2
          go_roundw
          case rel => exact ⟨k + 1, v, by omega, by go_num, by first | rfl | trivial, HN2⟩
          case measure => simp [intOf]; omega
      · rw [g1'] at s1
        rw [show ((false.toNat : Nat) : Int) = 0 from rfl] at s1
        have HN2 : Hid (∀ i, i < k + 1 → s.testBit i = true → (hul n L (nand s (bit i))).testBit i = false) := Lib.hid (fun i hi h2 => by
          by_cases e : i = k
          · subst e; rw [g1'] at h2; cases h2
          · exact HN.out i (by omega) h2)
        clear g1' HN
        go_upto_region 4 with fail
        refine wp_region_later v (by kernel_rfl) (by kernel_rfl) (fun _ => ?_)
        repeat (first | go_big_quiet_step ((fail)) | (refine wpQuiet_step (fun K hK => ?_); go_simp; refine ⟨_, fun _ => rfl, ?_⟩; refine hK _ ?_; clear hK K))
        refine wpQuiet_nil ?_
        intro v
        go_wp2
        go_roundw
        case rel => exact ⟨k + 1, v, by omega, by go_num, by first | rfl | trivial, HN2⟩
        case measure => simp [intOf]; omega
    · have hke : k = n := by omega
      subst hke
      have hd : d = true := HP.out.2 (fun i hi => HN.out i (HBn.out i hi) hi)
      subst hd
      go_wp2
      go_ret
      exact Ret.mk v rfl
end Go.Proofs.Ytmcffbmhkbijlaa
