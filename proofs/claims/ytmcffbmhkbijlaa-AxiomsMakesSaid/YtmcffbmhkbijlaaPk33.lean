
/-
  rotaref.OfRanks.
-/
import Derived.Test.YtmcffbmhkbijlaaPk40
namespace Go.Proofs.Ytmcffbmhkbijlaa
open Go.RowKit
set_option linter.unusedVariables false

/-- what rotaref.OfRanks asks, sums as the machine makes them -/
def RkOk (f : Nat → Int) (s a k : Nat) : Prop := ¬ IntKind.i64.wrap (f a + f (s ||| bit k)) < IntKind.i64.wrap (f (a ||| (s ||| bit k)) + f (a &&& (s ||| bit k)))
def RjOk (n : Nat) (f : Nat → Int) (s a : Nat) : Prop := (¬ f a < f s ∧ ¬ IntKind.i64.wrap (f s + 1) < f a) ∧ ∀ k, k < n → RkOk f s a k
def RiOk (n : Nat) (f : Nat → Int) (s : Nat) : Prop := ∀ i, i < n → RjOk n f s (s ||| bit i)
theorem rk_bnd {n : Nat} {f : Nat → Int} (hn : n ≤ 8) (h0 : f 0 = 0) (hst : ∀ s, s < bit n → 0 ≤ f s → f s ≤ 8 → ∀ i, i < n → f s ≤ f (s ||| bit i) ∧ f (s ||| bit i) ≤ f s + 1) : ∀ s, s < bit n → 0 ≤ f s ∧ f s ≤ sz s := by
  intro s
  induction s using Nat.strongRecOn with
  | ind s ih =>
  intro hs
  by_cases h : s = 0
  · subst h; rw [h0]; exact ⟨by omega, by omega⟩
  · have h8 := nat8 hn hs
    obtain ⟨i, hi, hb⟩ := exists_bit h8 h
    have hin := bitM_in hs hb
    have hlt := nand_bit_lt h8 hi hb
    have h1 := ih _ hlt (by omega)
    have h2 := sz_less hi hb
    have h3 := sz_le s
    have h4 := hst (nand s (bit i)) (by omega) h1.1 (by omega) i hin
    rw [nand_or_bit hb] at h4
    omega
theorem R_iff {n : Nat} {f : Nat → Int} (hn : n ≤ 8) : RAx n f ↔ f 0 = 0 ∧ ∀ s, s < bit n → RiOk n f s := by
  constructor
  · intro h
    have hb := rk_bnd hn h.zero (fun s hs _ _ i hi => h.step s hs i hi)
    have h8 : ∀ s, s < bit n → 0 ≤ f s ∧ f s ≤ 8 := fun s hs => by have := hb s hs; have := sz_le s; omega
    refine ⟨h.zero, fun s hs i hi => ⟨⟨by have := (h.step s hs i hi).1; omega, ?_⟩, fun k hk => ?_⟩⟩
    · have h1 := h8 s hs
      rw [IntWalk.i64_in (f s + 1) (by omega)]
      have := (h.step s hs i hi).2
      omega
    · have ha := h8 (s ||| bit i) (orM_lt hs (bit_lt_bit hi))
      have hb2 := h8 (s ||| bit k) (orM_lt hs (bit_lt_bit hk))
      have hc := h8 _ (orM_lt (orM_lt hs (bit_lt_bit hi)) (orM_lt hs (bit_lt_bit hk)))
      have hd := h8 ((s ||| bit i) &&& (s ||| bit k)) (Nat.lt_of_le_of_lt Nat.and_le_left (orM_lt hs (bit_lt_bit hi)))
      have h2 := h.subm s hs i hi k hk
      unfold RkOk
      rw [IntWalk.i64_in _ (by omega), IntWalk.i64_in _ (by omega)]
      omega
  · rintro ⟨h0, h⟩
    have hb := rk_bnd hn h0 (fun s hs h1 h2 i hi => by
      have := (h s hs i hi).1
      rw [IntWalk.i64_in (f s + 1) (by omega)] at this
      omega)
    have h8 : ∀ s, s < bit n → 0 ≤ f s ∧ f s ≤ 8 := fun s hs => by have := hb s hs; have := sz_le s; omega
    refine ⟨h0, fun s hs i hi => ?_, fun s hs i hi k hk => ?_⟩
    · have := (h s hs i hi).1
      have h1 := h8 s hs
      rw [IntWalk.i64_in (f s + 1) (by omega)] at this
      omega
    · have ha := h8 (s ||| bit i) (orM_lt hs (bit_lt_bit hi))
      have hb2 := h8 (s ||| bit k) (orM_lt hs (bit_lt_bit hk))
      have hc := h8 _ (orM_lt (orM_lt hs (bit_lt_bit hi)) (orM_lt hs (bit_lt_bit hk)))
      have hd := h8 ((s ||| bit i) &&& (s ||| bit k)) (Nat.lt_of_le_of_lt Nat.and_le_left (orM_lt hs (bit_lt_bit hi)))
      have h2 := (h s hs i hi).2 k hk
      unfold RkOk at h2
      rw [IntWalk.i64_in _ (by omega), IntWalk.i64_in _ (by omega)] at h2
      omega

set_option maxRecDepth 100000 in
set_option maxHeartbeats 4000000 in
theorem c_refRankTell {B : Nat} {W : World} (u : Later B W) (R : List Int) (cap g : Nat) (a : Option Addr) (s : Nat) (hs : s < 256) (hsl : s < R.length) (h : IntsAt B W a R) (hg : g < B) (hbox : W.cell? ⟨g, 0, none⟩ = some (.slice a R.length cap)) :
    Calls Try.prog 48 #[.int .i64 s, .pointer (some ⟨g, 0, none⟩)] u.val (Ret B W (.bool (PR (fun s => R.getD s 0) s))) := by
  have q1 : ∀ w : Later B W, w.val.cell? ⟨g, 0, none⟩ = some (.slice a R.length cap) := fun w => by rw [w.cell hg, hbox]
  obtain ⟨b, off, rfl, hbB, hcell⟩ := h.at (k := s) hsl
  have c0 : ∀ w : Later B W, w.val.cell? ⟨b, off + s, none⟩ = some (.int .i64 (R.getD s 0)) := fun w => hcell w s hsl
  have KS : Hid (∀ w : Later B W, Calls Try.prog 37 #[.int .i64 s] w.val (Ret B W (.int .i64 (sz s)))) := Lib.hid (fun w => c_size w s hs)
  have hd : (R.getD s 0 == (sz s : Int)) = PR (fun s => R.getD s 0) s := by
    unfold PR
    rw [Bool.eq_iff_iff, beq_iff_eq, decide_eq_true_eq]
  clear h hbox hcell
  generalize R.getD s 0 = r at *
  generalize PR (fun s => R.getD s 0) s = d at *
  generalize (sz s : Int) = z at *
  go_enter Try.func48, Try.ntmps48
  go_upto_region 1 with fail
  refine wp_region_later u (by kernel_rfl) (by kernel_rfl) (fun _ => ?_)
  repeat (first | go_big_quiet_step (((go_at_call 37; exact (KS.out _)))) | (refine wpQuiet_step (fun K hK => ?_); go_simp; refine ⟨_, fun _ => rfl, ?_⟩; refine hK _ ?_; clear hK K))
  refine wpQuiet_nil ?_
  intro u
  go_wp2
  go_ret
  exact Ret.mk u (by rw [← hd]; rfl)

set_option maxRecDepth 100000 in
set_option maxHeartbeats 16000000 in
theorem c_refOfRanks {B : Nat} {W : World} (u : Later B W) (n : Nat) (hn : n ≤ 8) (R : List Int) (hR : R.length = bit n) (a : Option Addr) (cap : Nat) (h : IntsAt B W a R) (ok : Bool) (hok : ok = true ↔ RAx n (fun s => R.getD s 0)) :
    Calls Try.prog 16 #[.int .i64 n, .slice a R.length cap] u.val (RetP B W (MatB B (mdN ok n) (mdX ok (big n (PR (fun s => R.getD s 0)))) ok)) := by
  have hB := u.size
  have hbn := bit_le n hn
  have uX : Later (u.val.alloc (.cells #[.slice a R.length cap] 22)).heap.size (u.val.alloc (.cells #[.slice a R.length cap] 22)) := Later.self _
  have X4 : Hid (RowL ((u.val.alloc (.cells #[.slice a R.length cap] 22)).alloc (.cells #[.int .i64 0, .slice none 0 0] 29)) (u.val.alloc (.cells #[.slice a R.length cap] 22)).heap.size 29 [.int .i64 0, .slice none 0 0]) := Lib.hid (RowL.new _ _ _)
  have XB : RowAt1 (u.val.alloc (.cells #[.slice a R.length cap] 22)) u.val.heap.size 22 (.slice a R.length cap) := RowAt1.new _ _ _
  have hXs : (u.val.alloc (.cells #[.slice a R.length cap] 22)).heap.size = u.val.heap.size + 1 := by simp
  have YB : RowAt1 ((u.val.alloc (.cells #[.slice a R.length cap] 22)).alloc (.cells #[.int .i64 0, .slice none 0 0] 29)) u.val.heap.size 22 (.slice a R.length cap) := XB.keep ((Later.self (u.val.alloc (.cells #[.slice a R.length cap] 22))).alloc _).below
  have QL : Hid (∀ w : Later ((u.val.alloc (.cells #[.slice a R.length cap] 22)).alloc (.cells #[.int .i64 0, .slice none 0 0] 29)).heap.size ((u.val.alloc (.cells #[.slice a R.length cap] 22)).alloc (.cells #[.int .i64 0, .slice none 0 0] 29)), w.val.cell? ⟨u.val.heap.size, 0, none⟩ = some (.slice a R.length cap)) := Lib.hid (fun w => (YB.keep w.below).c0)
  have HVY : Hid (∀ v : Later ((u.val.alloc (.cells #[.slice a R.length cap] 22)).alloc (.cells #[.int .i64 0, .slice none 0 0] 29)).heap.size ((u.val.alloc (.cells #[.slice a R.length cap] 22)).alloc (.cells #[.int .i64 0, .slice none 0 0] 29)), ∃ w : Later B W, w.val = v.val) := Lib.hid (fun v => ⟨((u.alloc _).alloc _).up v, rfl⟩)
  have HI : Hid (IntsAt ((u.val.alloc (.cells #[.slice a R.length cap] 22)).alloc (.cells #[.int .i64 0, .slice none 0 0] 29)).heap.size ((u.val.alloc (.cells #[.slice a R.length cap] 22)).alloc (.cells #[.int .i64 0, .slice none 0 0] 29)) a R) := Lib.hid (h.to ((u.alloc _).alloc _))
  have hYs : ((u.val.alloc (.cells #[.slice a R.length cap] 22)).alloc (.cells #[.int .i64 0, .slice none 0 0] 29)).heap.size = u.val.heap.size + 2 := by simp
  have KTh : Hid (∀ w : Later ((u.val.alloc (.cells #[.slice a R.length cap] 22)).alloc (.cells #[.int .i64 0, .slice none 0 0] 29)).heap.size ((u.val.alloc (.cells #[.slice a R.length cap] 22)).alloc (.cells #[.int .i64 0, .slice none 0 0] 29)), Calls Try.prog 40 #[.int .i64 n, .func (.func 48) #[] #[.pointer (some ⟨u.val.heap.size, 0, none⟩)]] w.val (RetOwn w.val.heap.size w.val (ints (those n (PR (fun s => R.getD s 0)))))) := Lib.hid (fun w => by
    have hws := w.size
    refine c_those_own (Later.self w.val) n hn 48 _ (PR (fun s => R.getD s 0)) (fun args w => by kernel_rfl) (fun x v s hs => ?_)
    have hxs := x.size
    exact c_refRankTell v R cap u.val.heap.size a s (by omega) (by omega) ((HI.out.to w).to x) (by omega) (by rw [← QL.out (w.up x)]; rfl))
  have HT8 : Hid (∀ s, s ∈ those n (PR (fun s => R.getD s 0)) → s < 256) := Lib.hid (fun s hs => nat8 hn (mem_those.1 hs).1)
  have HTl : Hid ((those n (PR (fun s => R.getD s 0))).length ≤ 256) := Lib.hid (by
    have h1 := thoseTo_len (PR (fun s => R.getD s 0)) (bit n)
    have h3 : those n (PR (fun s => R.getD s 0)) = thoseTo (PR (fun s => R.getD s 0)) (bit n) := rfl
    rw [h3]; omega)
  have KEn : Hid (∀ (w0 : Later ((u.val.alloc (.cells #[.slice a R.length cap] 22)).alloc (.cells #[.int .i64 0, .slice none 0 0] 29)).heap.size ((u.val.alloc (.cells #[.slice a R.length cap] 22)).alloc (.cells #[.int .i64 0, .slice none 0 0] 29))) (w : Later w0.val.heap.size w0.val) (ad : Option Addr) (cp : Nat), IntsAt w.val.heap.size w.val ad (ints (those n (PR (fun s => R.getD s 0)))) → Calls Try.prog 38 #[.slice ad (ints (those n (PR (fun s => R.getD s 0)))).length cp] w.val (RetOwn w.val.heap.size w.val (ints (big n (PR (fun s => R.getD s 0)))))) := Lib.hid (fun _ w ad cp hI => c_biggest_own (Later.self w.val) (those n (PR (fun s => R.getD s 0))) ad cp hI (by have := HTl.out; omega) HT8.out)
  have HAx2 : Hid (ok = true ↔ (fun s => R.getD s 0) 0 = 0 ∧ ∀ s, s < bit n → RiOk n (fun s => R.getD s 0) s) := Lib.hid (hok.trans (R_iff hn))
  have HRl := Lib.hid hR
  clear h hok YB XB uX hR
  obtain ⟨G, hG⟩ : ∃ G, G = big n (PR (fun s => R.getD s 0)) := ⟨_, rfl⟩
  rw [← hG] at KEn ⊢
  clear hG
  obtain ⟨Th, hTh⟩ : ∃ Th, Th = those n (PR (fun s => R.getD s 0)) := ⟨_, rfl⟩
  rw [← hTh] at KTh HT8 HTl KEn
  clear hTh
  go_enter Try.func16, Try.ntmps16
  go_upto_region 1 with fail
  generalize hgg : (u.val.alloc (.cells #[.slice a R.length cap] 22)).heap.size = gu at *
  generalize hgu : u.val.heap.size = gl at *
  clear hgu hgg
  generalize ((u.val.alloc (.cells #[.slice a R.length cap] 22)).alloc (.cells #[.int .i64 0, .slice none 0 0] 29)) = Y at *
  subst hXs
  have hg4 : gl + 1 < Y.heap.size := by omega
  have f0 : ∀ (w : Later Y.heap.size Y), w.val.cell? ⟨gl + 1, 0, none⟩ = some (.int .i64 0) := fun w => (X4.out.keep_at w.below hg4).cell rfl
  have z0 : ∀ (w : Later Y.heap.size Y), w.val.frozen? ⟨gl + 1, 0, none⟩ = false := fun w => (X4.out.keep_at w.below hg4).fz 0
  have f1 : ∀ (w : Later Y.heap.size Y) (x0 : Value), (w.val.setCell ⟨gl + 1, 0, none⟩ x0).cell? ⟨gl + 1, 1, none⟩ = some (.slice none 0 0) := fun w x0 => ((X4.out.keep_at w.below hg4).set 0 x0).cell rfl
  have z1 : ∀ (w : Later Y.heap.size Y) (x0 : Value), (w.val.setCell ⟨gl + 1, 0, none⟩ x0).frozen? ⟨gl + 1, 1, none⟩ = false := fun w x0 => ((X4.out.keep_at w.below hg4).set 0 x0).fz 1
  have HNo : Hid (ok = false → ∀ v1 : Later Y.heap.size Y, RetP B W (MatB B (mdN ok n) (mdX ok G) ok) (.returned (.tuple #[.agg #[.int .i64 0, .slice none 0 0], .bool false])) ((v1.val.setCell ⟨gl + 1, 0, none⟩ (.int .i64 0)).setCell ⟨gl + 1, 1, none⟩ (.slice none 0 0))) := Lib.hid (fun hok v1 => by
    subst hok
    obtain ⟨y1, hy1⟩ := later_set (HVY.out v1) (g := gl + 1) (i := 0) (by omega) (.int .i64 0)
    obtain ⟨y2, hy2⟩ := later_set ⟨y1, hy1⟩ (g := gl + 1) (i := 1) (by omega) (.slice none 0 0)
    exact RetP.of ⟨y2, hy2⟩ MatB.no)
  obtain ⟨y, hy⟩ : ∃ y : Later Y.heap.size Y, y.val = Y := ⟨Later.self _, rfl⟩
  rw [← hy]
  clear hy u
  have hR := HRl.out
  obtain ⟨b, off, rfl, hbB, hcell⟩ := HI.out.at (k := 0) (by rw [hR]; omega)
  have HC : Hid (∀ (w : Later Y.heap.size Y) (k : Nat), k < bit n → w.val.cell? ⟨b, off + k, none⟩ = some (.int .i64 (R.getD k 0))) := Lib.hid (fun w k hk => hcell w k (by rw [hR]; exact hk))
  have c0 : ∀ w : Later Y.heap.size Y, w.val.cell? ⟨b, off, none⟩ = some (.int .i64 (R.getD 0 0)) := fun w => HC.out w 0 (by omega)
  obtain ⟨f, hf⟩ : ∃ f : Nat → Int, f = fun s => R.getD s 0 := ⟨_, rfl⟩
  have HCf : Hid (∀ (w : Later Y.heap.size Y) (k : Nat), k < bit n → w.val.cell? ⟨b, off + k, none⟩ = some (.int .i64 (f k))) := Lib.hid (fun w k hk => by rw [hf]; exact HC.out w k hk)
  have HAx3 : Hid (ok = true ↔ f 0 = 0 ∧ ∀ s, s < bit n → RiOk n f s) := Lib.hid (by rw [hf]; exact HAx2.out)
  have QL0 : Hid (∀ w : Later Y.heap.size Y, w.val.cell? ⟨gl, 0, none⟩ = some (.slice (some ⟨b, off, none⟩) (bit n) cap)) := Lib.hid (fun w => by rw [← hR]; exact QL.out w)
  have ql := QL0.out
  have e0 : R.getD 0 0 = f 0 := by rw [hf]
  rw [e0] at c0
  clear HC HAx2 hf e0 hcell hR HI QL
  obtain ⟨N, hN⟩ : ∃ N, N = bit n := ⟨_, rfl⟩
  have HN := Lib.hid hN
  rw [← hN] at ql HCf HAx3 hbn
  clear hN QL0
  by_cases h0 : f 0 = 0
  case neg =>
    have hokf : Hid (ok = false) := Lib.hid (by
      cases hk : ok
      · rfl
      · exact absurd (HAx3.out.1 hk).1 h0)
    have d0 : (f 0 != 0) = true := by rw [bne_iff_ne]; exact h0
    clear h0 HAx3
    generalize f 0 = f0' at *
    obtain ⟨v, hy⟩ : ∃ v : Later Y.heap.size Y, v.val = y.val := ⟨y, rfl⟩
    rw [← hy]
    clear hy
    go_wp2
    refine bodyPost_ret (results_row (vs := [.int .i64 0, .slice none 0 0]) rfl _ _ (gl + 1) rfl (((X4.out.keep v.below).set 0 _).set 1 _) Try.underlying29 (by kernel_rfl)) rfl ?_
    exact HNo.out hokf.out v
  rw [h0] at c0
  have HAx4 : Hid (ok = true ↔ ∀ s, s < N → RiOk n f s) := Lib.hid (HAx3.out.trans ⟨fun c => c.2, fun c => ⟨h0, c⟩⟩)
  clear HAx3 h0
  go_upto_region 3 with fail
  clear c0
  go_wp2
  go_loopw [6] (fun iv wr => ∃ (s : Nat) (v : Later Y.heap.size Y), s ≤ N ∧ iv = .int .i64 s ∧ wr = v.val ∧ Hid (∀ s', s' < s → RiOk n f s')) (fun iv _ => N - (intOf iv).toNat)
  case atStart => exact ⟨0, y, by omega, rfl, by first | rfl | trivial, Lib.hid (fun i hi => by omega)⟩
  case round =>
    clear y
    obtain ⟨s, v, hs, rfl, rfl, HS1⟩ := hrel
    by_cases hlt : s < N
    · have hs8 : s < 256 := by omega
      have HFs : Hid ((RiOk n f s → ∀ s', s' < s + 1 → RiOk n f s') ∧ (¬ RiOk n f s → ok = false)) := Lib.hid ⟨fun hF s' hs' => by
        by_cases e : s' = s
        · subst e; exact hF
        · exact HS1.out s' (by omega), fun hF => by
          cases hk : ok
          · rfl
          · exact absurd (HAx4.out.1 hk s hlt) hF⟩
      have cs : ∀ w : Later Y.heap.size Y, w.val.cell? ⟨b, off + s, none⟩ = some (.int .i64 (f s)) := fun w => HCf.out w s hlt
      clear HS1 HAx4
      go_wp2
      go_loopw [7] (fun iv wr => ∃ (i : Nat) (v : Later Y.heap.size Y), i ≤ n ∧ iv = .int .i64 i ∧ wr = v.val ∧ Hid (∀ i', i' < i → RjOk n f s (s ||| bit i'))) (fun iv _ => n - (intOf iv).toNat)
      case atStart => exact ⟨0, v, by omega, rfl, by first | rfl | trivial, Lib.hid (fun k hk => by omega)⟩
      case round =>
        clear v
        obtain ⟨i, v, hi, rfl, rfl, HI1⟩ := hrel
        by_cases hlti : i < n
        · have bi := bit_cast i
          have hbi := bit_lt i (by omega)
          have w1 := IntWalk.i64_in (bit i : Int) (by omega)
          have o1 := i64_or s (bit i) (by omega) (by omega)
          have haN : s ||| bit i < N := by rw [HN.out]; exact orM_lt (by rw [← HN.out]; exact hlt) (bit_lt_bit hlti)
          have HFi : Hid ((RjOk n f s (s ||| bit i) → ∀ i', i' < i + 1 → RjOk n f s (s ||| bit i')) ∧ (¬ RjOk n f s (s ||| bit i) → ok = false)) := Lib.hid ⟨fun hF i' hi' => by
            by_cases e : i' = i
            · subst e; exact hF
            · exact HI1.out i' (by omega), fun hF => HFs.out.2 (fun c => hF (c i hlti))⟩
          clear HI1
          go_upto_region 10 with fail
          clear w1 o1 bi hbi
          generalize s ||| bit i = a at *
          have ca : ∀ w : Later Y.heap.size Y, w.val.cell? ⟨b, off + a, none⟩ = some (.int .i64 (f a)) := fun w => HCf.out w a haN
          obtain ⟨fs, hfs⟩ : ∃ fs, fs = f s := ⟨_, rfl⟩
          obtain ⟨fa, hfa⟩ : ∃ fa, fa = f a := ⟨_, rfl⟩
          obtain ⟨s1, hs1⟩ : ∃ s1, IntKind.i64.wrap (fs + 1) = s1 := ⟨_, rfl⟩
          have cs' := cs
          rw [← hfs] at cs'
          rw [← hfa] at ca
          have HE : Hid (RjOk n f s a ↔ (¬ fa < fs ∧ ¬ s1 < fa) ∧ ∀ k, k < n → RkOk f s a k) := Lib.hid (by unfold RjOk; rw [← hfs, ← hfa, hs1])
          have Hfa := Lib.hid hfa
          clear hfs hfa
          rcases ilt fa fs with ⟨g1, d1⟩ | ⟨g1, d1⟩
          · have hokf : Hid (ok = false) := Lib.hid (HFi.out.2 (fun c => (HE.out.1 c).1.1 g1))
            clear g1 cs
            refine wp_region_later v (by kernel_rfl) (by kernel_rfl) (fun _ => ?_)
            repeat (first | go_big_quiet_step ((fail)) | (refine wpQuiet_step (fun K hK => ?_); go_simp; refine ⟨_, fun _ => rfl, ?_⟩; refine hK _ ?_; clear hK K))
            refine wpQuiet_nil ?_
            intro v
            go_wp2
            refine bodyPost_ret (results_row (vs := [.int .i64 0, .slice none 0 0]) rfl _ _ (gl + 1) rfl (((X4.out.keep v.below).set 0 _).set 1 _) Try.underlying29 (by kernel_rfl)) rfl ?_
            exact HNo.out hokf.out v
          rcases ilt s1 fa with ⟨g2, d2⟩ | ⟨g2, d2⟩
          · have hokf : Hid (ok = false) := Lib.hid (HFi.out.2 (fun c => (HE.out.1 c).1.2 g2))
            clear g1 g2 cs
            refine wp_region_later v (by kernel_rfl) (by kernel_rfl) (fun _ => ?_)
            repeat (first | go_big_quiet_step ((fail)) | (refine wpQuiet_step (fun K hK => ?_); go_simp; refine ⟨_, fun _ => rfl, ?_⟩; refine hK _ ?_; clear hK K))
            refine wpQuiet_nil ?_
            intro v
            go_wp2
            refine bodyPost_ret (results_row (vs := [.int .i64 0, .slice none 0 0]) rfl _ _ (gl + 1) rfl (((X4.out.keep v.below).set 0 _).set 1 _) Try.underlying29 (by kernel_rfl)) rfl ?_
            exact HNo.out hokf.out v
          have HE2 : Hid (RjOk n f s a ↔ ∀ k, k < n → RkOk f s a k) := Lib.hid (HE.out.trans ⟨fun c => c.2, fun c => ⟨⟨by omega, by omega⟩, c⟩⟩)
          clear g1 g2 HE
          have Hcs := Lib.hid cs
          clear cs
          refine wp_region_later v (by kernel_rfl) (by kernel_rfl) (fun _ => ?_)
          repeat (first | go_big_quiet_step ((fail)) | (refine wpQuiet_step (fun K hK => ?_); go_simp; refine ⟨_, fun _ => rfl, ?_⟩; refine hK _ ?_; clear hK K))
          refine wpQuiet_nil ?_
          intro v
          clear cs' hs1 d1 d2
          go_wp2
          go_loopw [9] (fun kv wr => ∃ (k : Nat) (v : Later Y.heap.size Y), k ≤ n ∧ kv = .int .i64 k ∧ wr = v.val ∧ Hid (∀ k', k' < k → RkOk f s a k')) (fun kv _ => n - (intOf kv).toNat)
          case atStart => exact ⟨0, v, by omega, rfl, by first | rfl | trivial, Lib.hid (fun k hk => by omega)⟩
          case round =>
            clear v
            obtain ⟨k, v, hk, rfl, rfl, HK1⟩ := hrel
            by_cases hltk : k < n
            · have bk := bit_cast k
              have hbk := bit_lt k (by omega)
              have w1 := IntWalk.i64_in (bit k : Int) (by omega)
              have o1 := i64_or s (bit k) (by omega) (by omega)
              have hbN : s ||| bit k < N := by rw [HN.out]; exact orM_lt (by rw [← HN.out]; exact hlt) (bit_lt_bit hltk)
              have HFk : Hid ((RkOk f s a k → ∀ k', k' < k + 1 → RkOk f s a k') ∧ (¬ RkOk f s a k → ok = false)) := Lib.hid ⟨fun hF k' hk' => by
                by_cases e : k' = k
                · subst e; exact hF
                · exact HK1.out k' (by omega), fun hF => HFi.out.2 (fun c => hF (HE2.out.1 c k hltk))⟩
              have HR : Hid (RkOk f s a k ↔ ¬ IntKind.i64.wrap (f a + f (s ||| bit k)) < IntKind.i64.wrap (f (a ||| (s ||| bit k)) + f (a &&& (s ||| bit k)))) := Lib.hid Iff.rfl
              clear HK1
              go_upto_region 16 with fail
              clear w1 o1 bk hbk
              generalize s ||| bit k = m at *
              have o2 := i64_or a m (by omega) (by omega)
              have o3 := i64_and a m (by omega) (by omega)
              have hcN : a ||| m < N := by rw [HN.out] at haN hbN ⊢; exact orM_lt haN hbN
              have hdN : a &&& m < N := Nat.lt_of_le_of_lt Nat.and_le_left haN
              generalize a ||| m = p at *
              generalize a &&& m = q at *
              have cb : ∀ w : Later Y.heap.size Y, w.val.cell? ⟨b, off + m, none⟩ = some (.int .i64 (f m)) := fun w => HCf.out w m hbN
              have cp : ∀ w : Later Y.heap.size Y, w.val.cell? ⟨b, off + p, none⟩ = some (.int .i64 (f p)) := fun w => HCf.out w p hcN
              have cq : ∀ w : Later Y.heap.size Y, w.val.cell? ⟨b, off + q, none⟩ = some (.int .i64 (f q)) := fun w => HCf.out w q hdN
              rw [← Hfa.out] at HR
              generalize f m = fm at *
              generalize f p = fp at *
              generalize f q = fq at *
              obtain ⟨s2, hs2⟩ : ∃ s2, IntKind.i64.wrap (fa + fm) = s2 := ⟨_, rfl⟩
              obtain ⟨s3, hs3⟩ : ∃ s3, IntKind.i64.wrap (fp + fq) = s3 := ⟨_, rfl⟩
              rw [hs2, hs3] at HR
              rcases ilt s2 s3 with ⟨g1, d1⟩ | ⟨g1, d1⟩
              · have hokf : Hid (ok = false) := Lib.hid (HFk.out.2 (fun c => HR.out.1 c g1))
                clear g1 HR
                refine wp_region_later v (by kernel_rfl) (by kernel_rfl) (fun _ => ?_)
                repeat (first | go_big_quiet_step ((fail)) | (refine wpQuiet_step (fun K hK => ?_); go_simp; refine ⟨_, fun _ => rfl, ?_⟩; refine hK _ ?_; clear hK K))
                refine wpQuiet_nil ?_
                intro v
                go_wp2
                refine bodyPost_ret (results_row (vs := [.int .i64 0, .slice none 0 0]) rfl _ _ (gl + 1) rfl (((X4.out.keep v.below).set 0 _).set 1 _) Try.underlying29 (by kernel_rfl)) rfl ?_
                exact HNo.out hokf.out v
              · have HNx := Lib.hid (HFk.out.1 (HR.out.2 (by omega)))
                clear g1 HR
                refine wp_region_later v (by kernel_rfl) (by kernel_rfl) (fun _ => ?_)
                repeat (first | go_big_quiet_step ((fail)) | (refine wpQuiet_step (fun K hK => ?_); go_simp; refine ⟨_, fun _ => rfl, ?_⟩; refine hK _ ?_; clear hK K))
                refine wpQuiet_nil ?_
                intro v
                go_wp2
                go_roundw
                case rel => exact ⟨k + 1, v, by omega, by go_num, by first | rfl | trivial, HNx⟩
                case measure => simp [intOf]; omega
            · have hke : k = n := by omega
              subst hke
              have HNx := Lib.hid (HFi.out.1 (HE2.out.2 HK1.out))
              clear HK1
              go_wp2
              go_roundw
              case rel => exact ⟨i + 1, v, by omega, by go_num, by first | rfl | trivial, HNx⟩
              case measure => simp [intOf]; omega
        · have hie : i = n := by omega
          subst hie
          have HNx := Lib.hid (HFs.out.1 HI1.out)
          clear HI1
          go_wp2
          go_roundw
          case rel => exact ⟨s + 1, v, by omega, by go_num, by first | rfl | trivial, HNx⟩
          case measure => simp [intOf]; omega
    · have hie : s = N := by omega
      subst hie
      have hokt : ok = true := HAx4.out.2 HS1.out
      subst hokt
      have K1 := Lib.hid (KTh.out v)
      clear hlt hs HS1 KTh HAx4
      have r0 := f0 v
      have r1 := z0 v
      go_wp2_with (first | (go_at_call 40; (with_reducible refine (K1.out).mono ?_); rintro e _ ⟨_, rfl, ⟨adT, cpT, rfl, hOT⟩, v2, rfl⟩; have HOT := Lib.hid hOT; clear hOT) | (go_at_call 38; (with_reducible refine (KEn.out v v2 adT cpT HOT.out.reads).mono ?_); rintro e _ ⟨_, rfl, ⟨ad, cp, rfl, hO⟩, v3, rfl⟩; have HO := Lib.hid hO; clear hO; have r0 : v3.val.cell? ⟨gl + 1, 0, none⟩ = some (.int .i64 0) := f0 ((v.up v2).up v3); have r1 : v3.val.frozen? ⟨gl + 1, 0, none⟩ = false := z0 ((v.up v2).up v3); have r2 : ∀ x : Value, (v3.val.setCell ⟨gl + 1, 0, none⟩ x).cell? ⟨gl + 1, 1, none⟩ = some (.slice none 0 0) := f1 ((v.up v2).up v3); have r3 : ∀ x : Value, (v3.val.setCell ⟨gl + 1, 0, none⟩ x).frozen? ⟨gl + 1, 1, none⟩ = false := z1 ((v.up v2).up v3)) | fail)
      refine bodyPost_ret (results_row (vs := [.int .i64 n, .slice ad (ints G).length cp]) rfl _ _ (gl + 1) rfl (((X4.out.keep ((v.up v2).up v3).below).set 0 _).set 1 _) Try.underlying29 (by kernel_rfl)) rfl ?_
      obtain ⟨y1, hy1⟩ := later_set (HVY.out ((v.up v2).up v3)) (g := gl + 1) (i := 0) (by omega) (.int .i64 n)
      obtain ⟨y2, hy2⟩ := later_set ⟨y1, hy1⟩ (g := gl + 1) (i := 1) (by omega) (.slice ad (ints G).length cp)
      have hvs := v.size
      have hvs2 := v2.size
      exact RetP.of ⟨y2, hy2⟩ ⟨ad, cp, rfl, ((HO.out.set (by omega) _).set (by omega) _).mono (by omega)⟩
end Go.Proofs.Ytmcffbmhkbijlaa
