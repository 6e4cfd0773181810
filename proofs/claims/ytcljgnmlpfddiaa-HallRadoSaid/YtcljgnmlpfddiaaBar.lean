/-
  hall.RadoBar.
-/
import Derived.Deep.CutRange
import Derived.Deep.CutBlock
import Derived.Test.YtcljgnmlpfddiaaAxRanks
import Derived.Test.YtcljgnmlpfddiaaHallLow
import Derived.Test.YtcljgnmlpfddiaaRado
namespace Go.Proofs.Ytcljgnmlpfddiaa
open Go.RowKit
set_option linter.unusedVariables false

/-- sets that have too little rank together -/
def barC (L ls : List Nat) (s : Nat) : Prop := rk L (sev ls s) < sz s
def BarIs (q : Nat) (P : Nat → Prop) (x e : Int) : Prop := (∃ s : Nat, s < bit q ∧ P s ∧ (∀ z, z < s → ¬ P z) ∧ x = s ∧ e = 0) ∨ ((∀ z, z < bit q → ¬ P z) ∧ x = 0 ∧ e = 5)
theorem BarIs.hit {q : Nat} {P : Nat → Prop} {x e : Int} (h : BarIs q P x e) {s : Nat} (hs : s < bit q) (hp : P s) (hno : ∀ z, z < s → ¬ P z) : x = s ∧ e = 0 := by
  rcases h with ⟨k, h1, h2, h3, h4, h5⟩ | ⟨h1, _⟩
  · have : k = s := by
      rcases Nat.lt_trichotomy k s with c | c | c
      · exact absurd h2 (hno k c)
      · exact c
      · exact absurd hp (h3 s c)
    rw [← this]; exact ⟨h4, h5⟩
  · exact absurd hp (h1 s hs)
theorem BarIs.miss {q : Nat} {P : Nat → Prop} {x e : Int} (h : BarIs q P x e) (hno : ∀ z, z < bit q → ¬ P z) : x = 0 ∧ e = 5 := by
  rcases h with ⟨k, h1, h2, _⟩ | ⟨_, h⟩
  · exact absurd h2 (hno k h1)
  · exact h

set_option maxRecDepth 100000 in
set_option maxHeartbeats 8000000 in
theorem c_radoBar {B : Nat} {W : World} (u : Later B W) (m : Nat) (hm : m ≤ 8) (l : List Int) (a : Option Addr) (cap : Nat) (ls : List Nat) (b : Option Addr) (capb : Nat) (x e : Int) (h : IntsAt B W a l) (hlen : l.length ≤ 4611686018427387904) (he : MatIs (m : Int) l 0)
    (hb : IntsAt B W b (ints ls)) (h8 : ls.length ≤ 8) (hls : ∀ k, k < ls.length → ls.getD k 0 < bit m) (hLs : LisIs (m : Int) (ints ls) 0) (hB : BarIs ls.length (barC (toN l) ls) x e) :
    Calls Try.prog 84 #[.agg #[.int .i64 m, .slice a l.length cap], .slice b (ints ls).length capb] u.val (Ret B W (.tuple #[.int .i64 x, .int .i64 e])) := by
  have hbm := bit_le m hm
  have hbl := bit_le ls.length h8
  have hblc := bit_cast ls.length
  have T0 : Hid (Two (u.val.alloc (.cells #[.int .i64 m, .slice a l.length cap] 60)) u.val.heap.size 60 (.int .i64 m) (.slice a l.length cap)) := Lib.hid (Two.new _ _ _ _)
  have hI : IntsAt (u.val.alloc (.cells #[.int .i64 m, .slice a l.length cap] 60)).heap.size (u.val.alloc (.cells #[.int .i64 m, .slice a l.length cap] 60)) a l := h.to (u.alloc _)
  have hIb : IntsAt (u.val.alloc (.cells #[.int .i64 m, .slice a l.length cap] 60)).heap.size (u.val.alloc (.cells #[.int .i64 m, .slice a l.length cap] 60)) b (ints ls) := hb.to (u.alloc _)
  have HV : Hid (∀ v : Later (u.val.alloc (.cells #[.int .i64 m, .slice a l.length cap] 60)).heap.size (u.val.alloc (.cells #[.int .i64 m, .slice a l.length cap] 60)), ∃ w : Later B W, w.val = v.val) := Lib.hid (fun v => ⟨(u.alloc _).up v, rfl⟩)
  have q0 : ∀ w : Later (u.val.alloc (.cells #[.int .i64 m, .slice a l.length cap] 60)).heap.size (u.val.alloc (.cells #[.int .i64 m, .slice a l.length cap] 60)), w.val.cell? ⟨u.val.heap.size, 0, none⟩ = some (.int .i64 m) := fun w => (T0.out.keep w.below).c0
  have q1 : ∀ w : Later (u.val.alloc (.cells #[.int .i64 m, .slice a l.length cap] 60)).heap.size (u.val.alloc (.cells #[.int .i64 m, .slice a l.length cap] 60)), w.val.cell? ⟨u.val.heap.size, 1, none⟩ = some (.slice a l.length cap) := fun w => (T0.out.keep w.below).c1
  have p0 : (u.val.alloc (.cells #[.int .i64 m, .slice a l.length cap] 60)).cell? ⟨u.val.heap.size, 0, none⟩ = some (.int .i64 m) := T0.out.c0
  have p1 : (u.val.alloc (.cells #[.int .i64 m, .slice a l.length cap] 60)).cell? ⟨u.val.heap.size, 1, none⟩ = some (.slice a l.length cap) := T0.out.c1
  have KC : Hid (Calls Try.prog 136 #[.agg #[.int .i64 m, .slice a l.length cap]] (u.val.alloc (.cells #[.int .i64 m, .slice a l.length cap] 60)) (Ret (u.val.alloc (.cells #[.int .i64 m, .slice a l.length cap] 60)).heap.size (u.val.alloc (.cells #[.int .i64 m, .slice a l.length cap] 60)) (.int .i64 0))) := Lib.hid (c_axCheck (Later.self _) m l a cap 0 hI hlen he)
  have KH := Lib.hid (fun v : Later (u.val.alloc (.cells #[.int .i64 m, .slice a l.length cap] 60)).heap.size (u.val.alloc (.cells #[.int .i64 m, .slice a l.length cap] 60)) => c_hallCheck v m (ints ls) b capb 0 hIb (by rw [ints_len]; omega) hLs)
  have KR := Lib.hid (fun v : Later (u.val.alloc (.cells #[.int .i64 m, .slice a l.length cap] 60)).heap.size (u.val.alloc (.cells #[.int .i64 m, .slice a l.length cap] 60)) => c_axRanks v m hm l a cap hI hlen he)
  have HB := Lib.hid hB
  have HSl := Lib.hid (fun s k hk => sevTo_lt hls s (k := k) hk)
  have HLs := Lib.hid hls
  have HR8 : Hid (∀ s, rk (toN l) s ≤ 8) := Lib.hid (fun s => by have := rk_le_sz (toN l) s; have := sz_le s; omega)
  have HBc : Hid (∀ s, barC (toN l) ls s ↔ rk (toN l) (sevTo ls s ls.length) < sz s) := Lib.hid (fun s => Iff.rfl)
  have HSS : Hid (∀ s k, sevTo ls s (k+1) = if s.testBit k = true then sevTo ls s k ||| ls.getD k 0 else sevTo ls s k) := Lib.hid (fun s k => rfl)
  clear h hI hb he hB hls hLs T0
  go_enter Try.func84, Try.ntmps84
  rw [ints_len] at KH
  rw [ints_len]
  go_upto_region 8 with (first | (go_at_call 136; ((with_reducible refine (KC.out).mono ?_); rintro e _ ⟨rfl, v1, rfl⟩)) | (go_at_call 137; ((with_reducible refine (KH.out _).mono ?_); rintro e _ ⟨rfl, v1, rfl⟩)) | (go_at_call 138; ((with_reducible refine (KR.out _).mono ?_); rintro e _ ⟨_, rfl, ⟨g, c, rfl, hT⟩, v1, rfl⟩)))
  have HT := Lib.hid hT
  have HIb : Hid (IntsAt v1.val.heap.size v1.val b (ints ls)) := Lib.hid (hIb.to v1)
  have HVB : Hid (∀ v : Later v1.val.heap.size v1.val, ∃ w : Later B W, w.val = v.val) := Lib.hid (fun v => HV.out (v1.up v))
  clear hT KC KH KR q0 q1 p0 p1 HV hIb
  generalize toN l = L at *
  generalize barC L ls = P at *
  obtain ⟨y, hy⟩ : ∃ y : Later v1.val.heap.size v1.val, y.val = v1.val := ⟨Later.self _, rfl⟩
  rw [← hy]
  clear hy
  generalize v1.val = V at *
  go_wp2
  go_loopw [34] (fun i wr => ∃ (s : Nat) (v : Later V.heap.size V), s ≤ bit ls.length ∧ i = .int .i64 s ∧ wr = v.val ∧ Hid (∀ z, z < s → ¬ P z)) (fun i _ => bit ls.length - (intOf i).toNat)
  case atStart => exact ⟨0, y, by omega, rfl, rfl, Lib.hid (fun z hz => by omega)⟩
  case round =>
    obtain ⟨s, v, hs, rfl, rfl, HN⟩ := hrel
    rcases nlt s (bit ls.length) with ⟨hlt, d0⟩ | ⟨hlt, d0⟩
    case inr =>
      have d0' : decide ((s : Int) < (bit ls.length : Int)) = false := decide_eq_false (by omega)
      obtain ⟨rfl, rfl⟩ := HB.out.miss (fun z hz => HN.out z (by omega))
      clear HB HN
      go_wp2
      go_ret2
      exact Ret.of (HVB.out v) rfl
    have d0' : decide ((s : Int) < (bit ls.length : Int)) = true := decide_eq_true (by omega)
    have HHit : Hid (P s → x = s ∧ e = 0) := Lib.hid (fun h => HB.out.hit hlt h HN.out)
    have HNx : Hid (¬ P s → ∀ z, z < s + 1 → ¬ P z) := Lib.hid (fun h z hz => by
      by_cases c : z = s
      · subst c; exact h
      · exact HN.out z (by omega))
    have HP := Lib.hid (HBc.out s)
    have HSs := Lib.hid (HSS.out s)
    have HSk := Lib.hid (HSl.out s)
    clear HN
    go_wp2
    clear d0 d0'
    go_loopw [11, 39] (fun o i wr => ∃ (k : Nat) (v : Later V.heap.size V), k ≤ ls.length ∧ i = .int .i64 k ∧ o = .int .i64 (sevTo ls s k) ∧ wr = v.val) (fun _ i _ => ls.length - (intOf i).toNat)
    case atStart => exact ⟨0, v, by omega, rfl, rfl, rfl⟩
    case round =>
      obtain ⟨k, v, hk, rfl, rfl, rfl⟩ := hrel
      have hlk := HSk.out k hk
      by_cases hlt2 : k < ls.length
      · have HS := Lib.hid (HSs.out k)
        obtain ⟨bb, off, rfl, hbB, hcell⟩ := HIb.out.at (k := k) (by rw [ints_len]; exact hlt2)
        have c0 : ∀ v : Later V.heap.size V, v.val.cell? ⟨bb, off + k, none⟩ = some (.int .i64 ((ls.getD k 0 : Nat) : Int)) := fun v => by rw [← ints_getD]; exact hcell v k (by rw [ints_len]; exact hlt2)
        have hx := HLs.out k hlt2
        clear hcell
        generalize ls.getD k 0 = x0 at *
        generalize sevTo ls s k = c0' at *
        have ib := i64_bit s k (by omega) (by omega)
        have bk := bit_cast k
        have o1 := i64_or c0' x0 (by omega) (by omega)
        have o2 : bits .or .i64 (c0' : Int) 0 = (c0' : Int) := by have := i64_or c0' 0 (by omega) (by omega); simpa using this
        have w1 := IntWalk.i64_in (x0 : Int) (by omega)
        have w2 := IntWalk.i64_in (0 : Int) (by omega)
        rcases btf (s.testBit k) with g1 | g1
        · rw [g1] at ib
          rw [if_pos g1] at HS
          clear g1
          go_wp2
          go_roundw
          case rel => exact ⟨k+1, v, by omega, by go_num, vint (by rw [HS.out]), rfl⟩
          case measure => simp [intOf]; omega
        · rw [g1] at ib
          rw [if_neg (by rw [g1]; decide)] at HS
          clear g1
          go_wp2
          go_roundw
          case rel => exact ⟨k+1, v, by omega, by go_num, vint (by rw [HS.out]), rfl⟩
          case measure => simp [intOf]; omega
      · have hke : k = ls.length := by omega
        subst hke
        have hcell : ∀ v : Later V.heap.size V, v.val.cell? ⟨g, sevTo ls s ls.length, none⟩ = some (.int .i64 (rk L (sevTo ls s ls.length) : Int)) := fun v => (HT.out.keep v.below).cell hlk
        have hr := HR8.out (sevTo ls s ls.length)
        have KO := Lib.hid (fun v : Later V.heap.size V => c_ones v s (by omega))
        have hz := sz_le s
        clear HSk HSs
        generalize sevTo ls s ls.length = t at *
        generalize rk L t = p at *
        generalize sz s = q at *
        rcases ilt (p : Int) (q : Int) with ⟨g1, d1⟩ | ⟨g1, d1⟩
        · have d2 : decide (p < q) = true := decide_eq_true (by omega)
          obtain ⟨rfl, rfl⟩ := HHit.out (HP.out.2 (by omega))
          clear HHit HNx HP HB g1
          go_wp2
          refine wp_region_later v (by kernel_rfl) (by kernel_rfl) (fun _ => ?_)
          repeat (first | go_big_quiet_step (((go_at_call 140; exact KO.out _))) | (refine wpQuiet_step (fun K hK => ?_); go_simp; refine ⟨_, fun _ => rfl, ?_⟩; refine hK _ ?_; clear hK K))
          refine wpQuiet_nil ?_
          intro v
          go_wp2
          go_ret2
          exact Ret.of (HVB.out v) rfl
        · have d2 : decide (p < q) = false := decide_eq_false (by omega)
          have HN2 := Lib.hid (HNx.out (fun h => by have := HP.out.1 h; omega))
          clear HHit HNx HP g1
          go_wp2
          refine wp_region_later v (by kernel_rfl) (by kernel_rfl) (fun _ => ?_)
          repeat (first | go_big_quiet_step (((go_at_call 140; exact KO.out _))) | (refine wpQuiet_step (fun K hK => ?_); go_simp; refine ⟨_, fun _ => rfl, ?_⟩; refine hK _ ?_; clear hK K))
          refine wpQuiet_nil ?_
          intro v
          go_wp2
          go_roundw
          case rel => exact ⟨s+1, v, by omega, by go_num, rfl, HN2⟩
          case measure => simp [intOf]; omega

end Go.Proofs.Ytcljgnmlpfddiaa
