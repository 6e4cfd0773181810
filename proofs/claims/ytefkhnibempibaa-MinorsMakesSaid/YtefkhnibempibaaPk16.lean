
/-
  rotaref.Spread, minors.pressed.
  rotaref.Dual, Deleted, Contracted, Cut.
-/
import Derived.Test.YtefkhnibempibaaPk15
import Derived.Test.YtefkhnibempibaaPk03
import Derived.Test.YtefkhnibempibaaPk10
namespace Go.Proofs.Ytefkhnibempibaa
open Go.RowKit
set_option linter.unusedVariables false

set_option maxRecDepth 100000 in
set_option maxHeartbeats 4000000 in
theorem c_spread {B : Nat} {W : World} (u : Later B W) (m gone s : Nat) (hm : m ≤ 8) (hg : gone < 256) (hs : s < 256) :
    Calls Try.prog 61 #[.int .i64 m, .int .i64 gone, .int .i64 s] u.val (Ret B W (.int .i64 (spTo gone s m))) := by
  go_enter Try.func61, Try.ntmps61
  go_wp2
  go_loopw [7, 8, 9] (fun o c i wr => ∃ (k : Nat) (v : Later B W), k ≤ m ∧ o = .int .i64 (spTo gone s k) ∧ c = .int .i64 (cnt gone k) ∧ i = .int .i64 k ∧ wr = v.val) (fun _ _ i _ => m - (intOf i).toNat)
  case atStart => exact ⟨0, u, by omega, rfl, rfl, rfl, rfl⟩
  case round =>
    obtain ⟨k, v, hk, rfl, rfl, rfl, rfl⟩ := hrel
    by_cases hlt : k < m
    · have hc := cnt_le gone k
      have KI := Lib.hid (fun v : Later B W => c_in v gone k (by omega) (by omega))
      have KJ := Lib.hid (fun v : Later B W => c_in v s (cnt gone k) (by omega) (by omega))
      have hS : spTo gone s (k + 1) = if gone.testBit k = false ∧ s.testBit (cnt gone k) = true then spTo gone s k ||| bit k else spTo gone s k := rfl
      have hz := spTo_lt gone s k
      have hbk := bit_lt k (by omega)
      have bc := bit_cast k
      have w1 := IntWalk.i64_in (bit k : Int) (by omega)
      have o1 := i64_or (spTo gone s k) (bit k) (by omega) (by omega)
      rcases btf (gone.testBit k) with g1 | g1
      · rw [g1] at KI
        have H1 : Hid (spTo gone s (k + 1) = spTo gone s k) := Lib.hid (by rw [hS, if_neg (by rw [g1]; simp)])
        have H2 := Lib.hid (cnt_yes g1)
        clear hS g1 o1 bc w1
        generalize spTo gone s k = z at *
        generalize cnt gone k = c at *
        go_wp2_with (first | (go_at_call 38; ((with_reducible refine (KI.out _).mono ?_); rintro e _ ⟨rfl, v, rfl⟩)))
        go_roundw
        case rel => exact ⟨k+1, v, by omega, by rw [H1.out], by rw [H2.out], by go_num, rfl⟩
        case measure => simp [intOf]; omega
      · rw [g1] at KI
        have H2 := Lib.hid (cnt_no g1)
        rcases btf (s.testBit (cnt gone k)) with g2 | g2
        · rw [g2] at KJ
          have H1 : Hid (spTo gone s (k + 1) = spTo gone s k ||| bit k) := Lib.hid (by rw [hS, if_pos ⟨g1, g2⟩])
          clear hS g1 g2
          generalize spTo gone s k = z at *
          generalize cnt gone k = c at *
          go_wp2_with (first | (refine (KI.out v).mono ?_; rintro e _ ⟨rfl, v1, rfl⟩) | (refine (KJ.out v1).mono ?_; rintro e _ ⟨rfl, v2, rfl⟩))
          go_roundw
          case rel => exact ⟨k+1, v2, by omega, by rw [H1.out], by rw [H2.out]; go_num, by go_num, rfl⟩
          case measure => simp [intOf]; omega
        · rw [g2] at KJ
          have H1 : Hid (spTo gone s (k + 1) = spTo gone s k) := Lib.hid (by rw [hS, if_neg (by rw [g2]; simp)])
          clear hS g1 g2 o1 bc w1
          generalize spTo gone s k = z at *
          generalize cnt gone k = c at *
          go_wp2_with (first | (refine (KI.out v).mono ?_; rintro e _ ⟨rfl, v1, rfl⟩) | (refine (KJ.out v1).mono ?_; rintro e _ ⟨rfl, v2, rfl⟩))
          go_roundw
          case rel => exact ⟨k+1, v2, by omega, by rw [H1.out], by rw [H2.out]; go_num, by go_num, rfl⟩
          case measure => simp [intOf]; omega
    · have hke : k = m := by omega
      subst hke
      go_wp2
      go_ret
      exact Ret.mk v rfl

theorem shr_and (x k : Nat) (hx : x < 256) : bits .and .i64 ((x : Int) / 2 ^ k) 1 = (((x.testBit k).toNat : Nat) : Int) := by
  have e1 : ((x : Int) / 2 ^ k) = ((x / 2 ^ k : Nat) : Int) := by simp
  have h1 : x / 2 ^ k ≤ x := Nat.div_le_self _ _
  rw [e1]
  have := i64_and (x / 2 ^ k) 1 (by omega) (by omega)
  rw [show ((1 : Nat) : Int) = 1 from rfl] at this
  rw [this, Nat.and_one_is_mod, Nat.toNat_testBit]

set_option maxRecDepth 100000 in
set_option maxHeartbeats 4000000 in
theorem c_pressed {B : Nat} {W : World} (u : Later B W) (m b gone : Nat) (hm : m ≤ 8) (hb : b < 256) (hg : gone < 256) :
    Calls Try.prog 75 #[.int .i64 m, .int .i64 b, .int .i64 gone] u.val (Ret B W (.int .i64 (prTo gone b m))) := by
  go_enter Try.func75, Try.ntmps75
  go_wp2
  go_loopw [7, 8, 11] (fun o c i wr => ∃ (k : Nat) (v : Later B W), k ≤ m ∧ o = .int .i64 (prTo gone b k) ∧ c = .int .i64 (cnt gone k) ∧ i = .int .i64 k ∧ wr = v.val) (fun _ _ i _ => m - (intOf i).toNat)
  case atStart => exact ⟨0, u, by omega, rfl, rfl, rfl, rfl⟩
  case round =>
    obtain ⟨k, v, hk, rfl, rfl, rfl, rfl⟩ := hrel
    by_cases hlt : k < m
    · have hc := cnt_le gone k
      have hS : prTo gone b (k + 1) = if gone.testBit k = false ∧ b.testBit k = true then prTo gone b k ||| bit (cnt gone k) else prTo gone b k := rfl
      have hz := prTo_lt gone b k
      have hbk := bit_lt (cnt gone k) (by omega)
      have o1 := i64_or (prTo gone b k) (bit (cnt gone k)) (by omega) (by omega)
      have o0 := i64_or (prTo gone b k) 0 (by omega) (by omega)
      rw [show ((0 : Nat) : Int) = 0 from rfl, Nat.or_zero] at o0
      have s1 := shr_and gone k hg
      have s2 := shr_and b k hb
      rcases btf (gone.testBit k) with g1 | g1
      · rw [g1] at s1
        rw [show ((true.toNat : Nat) : Int) = 1 from rfl] at s1
        have H1 : Hid (prTo gone b (k + 1) = prTo gone b k) := Lib.hid (by rw [hS, if_neg (by rw [g1]; simp)])
        have H2 := Lib.hid (cnt_yes g1)
        clear hS g1 o1 s2 o0
        generalize prTo gone b k = z at *
        generalize cnt gone k = c at *
        go_wp2
        go_roundw
        case rel => exact ⟨k+1, v, by omega, by rw [H1.out], by rw [H2.out], by go_num, rfl⟩
        case measure => simp [intOf]; omega
      · rw [g1] at s1
        rw [show ((false.toNat : Nat) : Int) = 0 from rfl] at s1
        have H2 := Lib.hid (cnt_no g1)
        rcases btf (b.testBit k) with g2 | g2
        · rw [g2] at s2
          rw [show ((true.toNat : Nat) : Int) = 1 from rfl] at s2
          have H1 : Hid (prTo gone b (k + 1) = prTo gone b k ||| bit (cnt gone k)) := Lib.hid (by rw [hS, if_pos ⟨g1, g2⟩])
          have bc := bit_cast (cnt gone k)
          have w1 := IntWalk.i64_in (bit (cnt gone k) : Int) (by omega)
          clear hS g1 g2 o0
          generalize prTo gone b k = z at *
          generalize cnt gone k = c at *
          go_wp2
          go_roundw
          case rel => exact ⟨k+1, v, by omega, by rw [H1.out], by rw [H2.out]; go_num, by go_num, rfl⟩
          case measure => simp [intOf]; omega
        · rw [g2] at s2
          rw [show ((false.toNat : Nat) : Int) = 0 from rfl] at s2
          have H1 : Hid (prTo gone b (k + 1) = prTo gone b k) := Lib.hid (by rw [hS, if_neg (by rw [g2]; simp)])
          clear hS g1 g2 o1
          generalize prTo gone b k = z at *
          generalize cnt gone k = c at *
          go_wp2
          go_roundw
          case rel => exact ⟨k+1, v, by omega, by rw [H1.out], by rw [H2.out]; go_num, by go_num, rfl⟩
          case measure => simp [intOf]; omega
    · have hke : k = m := by omega
      subst hke
      go_wp2
      go_ret
      exact Ret.mk v rfl

end Go.Proofs.Ytefkhnibempibaa

namespace Go.Proofs.Ytefkhnibempibaa
open Go.RowKit
set_option linter.unusedVariables false

set_option maxRecDepth 100000 in
set_option maxHeartbeats 4000000 in
theorem c_delTell {B : Nat} {W : World} (u : Later B W) (m : Nat) (hm : m ≤ 8) (L : List Nat) (s t gm gr gs gt c : Nat) (hs : s < bit m) (ht : t < 256) (hgm : gm < B) (hgr : gr < B) (hgs : gs < B) (hgt : gt < B) (hn : W.cell? ⟨gm, 0, none⟩ = some (.int .i64 m)) (hr : W.cell? ⟨gr, 0, none⟩ = some (.slice (some ⟨gt, 0, none⟩) (bit m) c)) (hss : W.cell? ⟨gs, 0, none⟩ = some (.int .i64 s)) (hT : ITab W gt (bit m) (fun j => (rk L j : Int))) :
    Calls Try.prog 60 #[.int .i64 t, .pointer (some ⟨gr, 0, none⟩), .pointer (some ⟨gm, 0, none⟩), .pointer (some ⟨gs, 0, none⟩)] u.val (Ret B W (.int .i64 (delR m L s t))) := by
  have hb := bit_le m hm
  have q0 : ∀ v : Later B W, v.val.cell? ⟨gm, 0, none⟩ = some (.int .i64 m) := fun v => by rw [v.cell hgm, hn]
  have q1 : ∀ v : Later B W, v.val.cell? ⟨gr, 0, none⟩ = some (.slice (some ⟨gt, 0, none⟩) (bit m) c) := fun v => by rw [v.cell hgr, hr]
  have q2 : ∀ v : Later B W, v.val.cell? ⟨gs, 0, none⟩ = some (.int .i64 s) := fun v => by rw [v.cell hgs, hss]
  have hsp := spTo_lt s t m
  have c1 : ∀ v : Later B W, v.val.cell? ⟨gt, spTo s t m, none⟩ = some (.int .i64 (rk L (spTo s t m) : Int)) := fun v => (hT.keep_at v.below hgt).cell hsp
  have KS := Lib.hid (fun v : Later B W => c_spread v m s t hm (by omega) ht)
  have HR : Hid (delR m L s t = (rk L (spTo s t m) : Int)) := Lib.hid rfl
  clear hn hr hT hss
  generalize delR m L s t = res at *
  generalize rk L (spTo s t m) = p1 at *
  generalize spTo s t m = z at *
  go_enter Try.func60, Try.ntmps60
  go_wp2
  refine wp_region_later u (by kernel_rfl) (by kernel_rfl) (fun _ => ?_)
  repeat (first | go_big_quiet_step (((go_at_call 61; exact KS.out _))) | (refine wpQuiet_step (fun K hK => ?_); go_simp; refine ⟨_, fun _ => rfl, ?_⟩; refine hK _ ?_; clear hK K))
  refine wpQuiet_nil ?_
  intro u
  go_wp2
  go_ret
  exact Ret.mk u (by rw [HR.out]; rfl)

end Go.Proofs.Ytefkhnibempibaa
