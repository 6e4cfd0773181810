/-
  sub.Induced, the walk.
-/
import Derived.Test.YtcljgnmlpfddiaaSubK
import Derived.Laws.ResultCell
namespace Go.Proofs.Ytcljgnmlpfddiaa
open Go.RowKit
set_option linter.unusedVariables false

theorem Two.keep_at {w w' : World} {g B : Nat} {t : TypeId} {a b : Value} (h : Two w g t a b) (hb : Below B w w') (hg : g < B) : Two w' g t a b := by
  show w'.heap[g]? = _
  rw [hb.block g hg]; exact h

theorem results_two {fn : Func} {p x : Tmp} {ty : TypeId} (h : fn.results = #[.cell p ty, .tmp x]) {P : Program} (tmps : Array Value) (w : World) (g : Nat) {t : TypeId} {a b : Value} {fs : Array Field}
    (hp : tmps.getD p undef = .pointer (some ⟨g, 0, none⟩)) (hT : Two w g t a b)
    (hu : P.underlying ty = some (.struct fs)) (hi : (P.info? ty).map (·.size) = some 2) :
    (results fn tmps).run P w = .ok (.tuple #[.agg #[a, b], tmps.getD x undef]) w := by
  have hl := run_loadVar_row (P := P) w g t ty #[a, b] (0, 0) _ hT hu rfl hi
  rw [results_cell_tmp h, hp]
  simp [asAddr, Result.andThen, hl]

/-- a result: a matroid (none where the error is not 0) and the error -/
def MatE (n : Int) (xs : List Int) (k : Int) (v : Value) (w : World) : Prop := ∃ b, v = .tuple #[.agg #[.int .i64 (if k = 0 then n else 0), b], .int .i64 k] ∧ Reads w.heap.size w b (if k = 0 then xs else [])
def RetMatE (B : Nat) (W : World) (n : Int) (xs : List Int) (k : Int) : Ending → World → Prop := RetP B W (MatE n xs k)
theorem MatE.no {n : Int} {xs : List Int} {k : Int} (hk : k ≠ 0) (w : World) : MatE n xs k (.tuple #[.agg #[.int .i64 0, .slice none 0 0], .int .i64 k]) w :=
  ⟨_, by rw [if_neg hk], by rw [if_neg hk]; exact Reads.nil _ _⟩

set_option maxRecDepth 100000 in
set_option maxHeartbeats 4000000 in
theorem c_subInduced {B : Nat} {W : World} (u : Later B W) (n : Int) (f : List Int) (a : Option Addr) (cap : Nat) (e k : Int) (h : IntsAt B W a f) (hlen : f.length ≤ 4611686018427387904) (he : SlwIs n f e) (hk : IndIs f e k) :
    Calls Try.prog 57 #[.int .i64 n, .slice a f.length cap] u.val (RetMatE B W n (ints (biggest (those n.toNat (indep f)))) k) := by
  have hB := u.size
  have T0 : Hid (Two (u.val.alloc (.cells #[.int .i64 0, .slice none 0 0] 60)) u.val.heap.size 60 (.int .i64 0) (.slice none 0 0)) := Lib.hid (Two.new _ _ _ _)
  have HC := Lib.hid (c_subCheck (Later.self (u.val.alloc (.cells #[.int .i64 0, .slice none 0 0] 60))) n f a cap e (h.to (u.alloc _)) hlen he)
  have HU : Hid (∀ v : Later (u.val.alloc (.cells #[.int .i64 0, .slice none 0 0] 60)).heap.size (u.val.alloc (.cells #[.int .i64 0, .slice none 0 0] 60)), ∃ v' : Later B W, v'.val = v.val) := Lib.hid (fun v => ⟨(u.alloc _).up v, rfl⟩)
  have hI := h.to (u.alloc (.cells #[.int .i64 0, .slice none 0 0] 60))
  have hI' : IntsAt (u.val.alloc (.cells #[.int .i64 0, .slice none 0 0] 60)).heap.size (u.val.alloc (.cells #[.int .i64 0, .slice none 0 0] 60)) a f := hI
  have HI := Lib.hid hI'
  clear hI hI' h
  have hr : u.val.heap.size < (u.val.alloc (.cells #[.int .i64 0, .slice none 0 0] 60)).heap.size := by simp
  go_enter Try.func57, Try.ntmps57
  rcases ieq e 0 with ⟨g, d1, d2⟩ | ⟨g, d1, d2⟩
  case inr =>
    have hke := hk.1 g
    subst hke
    have HG := Lib.hid g
    clear he g hk
    go_wp2_with (first | (go_at_call 115; refine HC.out.mono ?_; rintro e _ ⟨rfl, v1, rfl⟩; have T1 := T0.out.keep_at v1.below hr; have e0 := T1.c0; have e1 := T1.c1; have e2 := T1.fz 0; have e3 := T1.fz 1; have T2 := T1.set0 (.int .i64 0); have e4 := T2.c1; have e5 := T2.fz 1; have T3 := Lib.hid (T2.set1 (.slice none 0 0)); clear T1 T2))
    refine bodyPost_ret (results_two rfl _ _ u.val.heap.size rfl T3.out Try.underlying60 (by kernel_rfl)) rfl ?_
    obtain ⟨v', hv'⟩ := HU.out v1
    rw [← hv']
    refine RetP.mk (v'.set ⟨u.val.heap.size, 0, none⟩ hB _ |>.set ⟨u.val.heap.size, 1, none⟩ hB _) ?_
    exact MatE.no HG.out _
  subst g
  obtain ⟨hf, hg⟩ := he.zero
  obtain ⟨m, rfl⟩ := Int.eq_ofNat_of_zero_le hf.1
  have hm : m ≤ 8 := by have := hf.2.1; omega
  have hb := bit_le m hm
  have hl := hf.len
  have hl1 : f.length ≤ 256 := by omega
  have hl2 : 1 ≤ f.length := by omega
  have HL := Lib.hid hl
  have HB := Lib.hid hf.bound
  have HM := Lib.hid (mono_iff hm hl)
  have HK1 := Lib.hid (hk.2.1 rfl)
  have HK2 := Lib.hid (hk.2.2 rfl)
  clear hf hg hl he hk
  obtain ⟨b, off, rfl, hbB, hcell⟩ := HI.out.at (k := 0) (by omega)
  have HCl := Lib.hid hcell; clear hcell
  go_wp2_with (first | (go_at_call 115; refine HC.out.mono ?_; rintro e _ ⟨rfl, v1, rfl⟩))
  clear HC
  generalize hr2 : u.val.heap.size = r at *
  generalize u.val.alloc (.cells #[.int .i64 0, .slice none 0 0] 60) = W1 at *
  clear hr2 u d1 d2
  go_loopw [23] (fun i wr => ∃ (s : Nat) (u : Later W1.heap.size W1), s ≤ f.length ∧ i = .int .i64 s ∧ wr = u.val ∧ Hid (∀ j, j < s → ∀ i, i < m → f.getD j 0 ≤ f.getD (j ||| bit i) 0)) (fun i _ => f.length - (intOf i).toNat)
  case atStart => exact ⟨0, v1, by omega, rfl, rfl, Lib.hid (fun j hj => absurd hj (by omega))⟩
  case round =>
    clear v1
    obtain ⟨s, v1, hs, rfl, rfl, hf⟩ := hrel
    by_cases hlt : s < f.length
    · go_wp2
      go_loopw [27] (fun i wr => ∃ (t : Nat) (u : Later W1.heap.size W1), t ≤ m ∧ i = .int .i64 t ∧ wr = u.val ∧ Hid (∀ i, i < t → f.getD s 0 ≤ f.getD (s ||| bit i) 0)) (fun i _ => m - (intOf i).toNat)
      case atStart => exact ⟨0, v1, by omega, rfl, rfl, Lib.hid (fun j hj => absurd hj (by omega))⟩
      case round =>
        clear v1
        obtain ⟨i, v1, hi, rfl, rfl, hg⟩ := hrel
        by_cases hlt2 : i < m
        · have bi := bit_lt i (by omega)
          have hci := bit_cast i
          have i1 : s ||| bit i < f.length := by rw [HL.out] at hlt ⊢; exact or_lt_bit hlt (bit_lt_bit hlt2)
          have hor := i64_or s (bit i) (by omega) (by omega)
          have c0 : ∀ u : Later W1.heap.size W1, u.val.cell? ⟨b, off + s, none⟩ = some (.int .i64 (f.getD s 0)) := fun u => HCl.out u s hlt
          have c1 : ∀ u : Later W1.heap.size W1, u.val.cell? ⟨b, off + (s ||| bit i), none⟩ = some (.int .i64 (f.getD (s ||| bit i) 0)) := fun u => HCl.out u _ i1
          have HM1 : Hid (MonoL f m → f.getD s 0 ≤ f.getD (s ||| bit i) 0) := Lib.hid (fun h => h s hlt i hlt2)
          have HE : Hid (f.getD s 0 ≤ f.getD (s ||| bit i) 0 → ∀ j, j < i + 1 → f.getD s 0 ≤ f.getD (s ||| bit j) 0) := Lib.hid (fun h j hj => by
            by_cases e : j = i
            · subst e; exact h
            · exact hg.out j (by omega))
          clear hg
          generalize f.getD s 0 = x at *
          generalize f.getD (s ||| bit i) 0 = y at *
          rcases ilt y x with ⟨g1, d1⟩ | ⟨g1, d1⟩
          · have hk3 : k = 3 := HK2.out (fun g => by have := HM1.out (HM.out.1 g); omega)
            subst hk3
            go_wp2
            refine wp_region_later v1 (by kernel_rfl) (by kernel_rfl) (fun _ => ?_)
            repeat (first | go_big_quiet_step ((fail)) | (refine wpQuiet_step (fun K hK => ?_); go_simp; refine ⟨_, fun _ => rfl, ?_⟩; refine hK _ ?_; clear hK K))
            refine wpQuiet_nil ?_
            intro v1
            have T1 := T0.out.keep_at v1.below hr
            have e0 := T1.c0; have e1 := T1.c1; have e2 := T1.fz 0; have e3 := T1.fz 1
            have T2 := T1.set0 (.int .i64 0)
            have e4 := T2.c1; have e5 := T2.fz 1
            have T3 := Lib.hid (T2.set1 (.slice none 0 0))
            clear T1 T2
            go_wp2
            refine bodyPost_ret (results_two rfl _ _ r rfl T3.out Try.underlying60 (by kernel_rfl)) rfl ?_
            obtain ⟨v', hv'⟩ := HU.out v1
            rw [← hv']
            refine RetP.mk (v'.set ⟨r, 0, none⟩ hB _ |>.set ⟨r, 1, none⟩ hB _) ?_
            exact MatE.no (by decide) _
          · go_wp2
            refine wp_region_later v1 (by kernel_rfl) (by kernel_rfl) (fun _ => ?_)
            repeat (first | go_big_quiet_step ((fail)) | (refine wpQuiet_step (fun K hK => ?_); go_simp; refine ⟨_, fun _ => rfl, ?_⟩; refine hK _ ?_; clear hK K))
            refine wpQuiet_nil ?_
            intro v1
            go_wp2
            go_roundw
            case rel => exact ⟨i+1, v1, by omega, by go_num, rfl, Lib.hid (HE.out (by omega))⟩
            case measure => simp [intOf]; omega
        · have hte : Hid (i = m) := Lib.hid (by omega)
          go_wp2
          go_roundw
          case rel => exact ⟨s+1, v1, by omega, by go_num, rfl, Lib.hid (fun j hj => by
            by_cases e : j = s
            · subst e; exact fun t' ht' => hg.out t' (by have := hte.out; omega)
            · exact hf.out j (by omega))⟩
          case measure => simp [intOf]; omega
    · have hk0 : k = 0 := HK1.out (HM.out.2 (fun j hj => hf.out j (by omega)))
      subst hk0
      clear HK1 HK2 HM hf
      go_wp2
      clear hlt hs
      have hB2 : W1.heap.size ≤ v1.val.heap.size := v1.size
      have TG : Hid (Two ((v1.val.alloc (.cells #[.int .i64 m, .slice none 0 0] 60))) v1.val.heap.size 60 (.int .i64 m) (.slice none 0 0)) := Lib.hid (Two.new _ _ _ _)
      have HG1 : Hid (Own (v1.val.heap.size + 1) (v1.val.alloc (.cells #[.int .i64 m, .slice none 0 0] 60)) none 0 (ints (grow (indep f) 0).1)) := Own.nil _ _
      have HV : Hid (∃ w : Later W1.heap.size W1, w.val = v1.val.alloc (.cells #[.int .i64 m, .slice none 0 0] 60) ∧ v1.val.heap.size < w.val.heap.size) := Lib.hid ⟨v1.alloc _, rfl, by show v1.val.heap.size < (v1.val.alloc _).heap.size; simp⟩
      generalize v1.val.alloc (.cells #[.int .i64 m, .slice none 0 0] 60) = W2 at *
      have hB3 : W1.heap.size ≤ v1.val.heap.size := hB2
      generalize v1.val.heap.size = g at *
      clear v1
      obtain ⟨v1, hv1, hgv⟩ := HV.out
      subst hv1
      clear HV
      go_loopw [10, 49] (fun o i wr => ∃ (s : Nat) (ad : Option Addr) (cp : Nat) (v : Later W1.heap.size W1), s ≤ f.length ∧ i = .int .i64 s ∧ o = .int .i64 (grow (indep f) s).2 ∧ wr = v.val ∧ g < v.val.heap.size ∧ Hid (Two v.val g 60 (.int .i64 m) (.slice ad (ints (grow (indep f) s).1).length cp)) ∧ Hid (Own (g+1) v.val ad cp (ints (grow (indep f) s).1))) (fun _ i _ => f.length - (intOf i).toNat)
      case atStart => exact ⟨0, none, 0, v1, by omega, rfl, rfl, rfl, hgv, TG, HG1⟩
      case round =>
        clear TG HG1 hgv v1
        obtain ⟨s, ad, cp, v, hs, rfl, rfl, rfl, hgv, HT, HO⟩ := hrel
        by_cases hlt : s < f.length
        · go_wp2
          go_loopw [12, 13] (fun o i wr => ∃ (ok : Bool) (t : Nat) (x : Later v.val.heap.size v.val), t < 256 ∧ i = .int .i64 t ∧ o = .bool ok ∧ wr = x.val ∧ Hid (t &&& s = t) ∧ Hid (ok = true → fitAbove f s t) ∧ Hid (ok = false → indep f s = false)) (fun _ i _ => (intOf i).toNat)
          case atStart => exact ⟨true, s, Later.self _, by omega, rfl, rfl, rfl, Lib.hid (Nat.and_self s), Lib.hid (fun _ => fit_start f s), Lib.hid (fun h => by cases h)⟩
          case round =>
            obtain ⟨ok, t, x, ht, rfl, rfl, rfl, H1, H2, H3⟩ := hrel
            by_cases hgo : t ≠ 0 ∧ ok = true
            · obtain ⟨h0, rfl⟩ := hgo
              have hts : t ≤ s := by have := H1.out; rw [← this]; exact Nat.and_le_right
              have d0 : ((t : Int) != 0) = true := by simp; omega
              have c0 : ∀ y : Later v.val.heap.size v.val, y.val.cell? ⟨b, off + t, none⟩ = some (.int .i64 (f.getD t 0)) := fun y => HCl.out ((Later.to v y.val (y.below.mono v.size))) t (by omega)
              have hand : bits .and .i64 ((t : Int) - 1) (s : Int) = (((t - 1) &&& s : Nat) : Int) := by
                have := i64_and (t - 1) s (by omega) (by omega)
                rwa [show ((t - 1 : Nat) : Int) = (t : Int) - 1 by omega] at this
              have HS := Lib.hid (fun y : Later v.val.heap.size v.val => c_size_sub y t (by omega))
              have HP := Lib.hid (pred_sub_lt (s := s) h0)
              have HQ := Lib.hid (pred_sub_sub s t)
              have HY : Hid ((sz t : Int) ≤ f.getD t 0 → fitAbove f s ((t - 1) &&& s)) := Lib.hid (fit_step H1.out (H2.out rfl))
              have HN : Hid (f.getD t 0 < (sz t : Int) → indep f s = false) := Lib.hid (fun h => fit_no h0 H1.out (by omega))
              clear H2 H3
              generalize f.getD t 0 = z at *
              have hz := sz_le t
              rcases ile (sz t : Int) z with ⟨g1, d1⟩ | ⟨g1, d1⟩
              · have HY2 := Lib.hid (HY.out g1); clear HY HN
                go_wp2
                refine wp_region_later x (by kernel_rfl) (by kernel_rfl) (fun _ => ?_)
                repeat (first | go_big_quiet_step (((go_at_call 116; exact HS.out _))) | (refine wpQuiet_step (fun K hK => ?_); go_simp; refine ⟨_, fun _ => rfl, ?_⟩; refine hK _ ?_; clear hK K))
                refine wpQuiet_nil ?_
                intro x
                go_wp2
                go_roundw
                case rel => exact ⟨true, (t - 1) &&& s, x, by have := HP.out; omega, rfl, rfl, rfl, HQ, Lib.hid (fun _ => HY2.out), Lib.hid (fun h => by cases h)⟩
                case measure => have := HP.out; simp [intOf]; omega
              · have HN2 := Lib.hid (HN.out g1); clear HY HN
                go_wp2
                refine wp_region_later x (by kernel_rfl) (by kernel_rfl) (fun _ => ?_)
                repeat (first | go_big_quiet_step (((go_at_call 116; exact HS.out _))) | (refine wpQuiet_step (fun K hK => ?_); go_simp; refine ⟨_, fun _ => rfl, ?_⟩; refine hK _ ?_; clear hK K))
                refine wpQuiet_nil ?_
                intro x
                go_wp2
                go_roundw
                case rel => exact ⟨false, (t - 1) &&& s, x, by have := HP.out; omega, rfl, rfl, rfl, HQ, Lib.hid (fun h => by cases h), Lib.hid (fun _ => HN2.out)⟩
                case measure => have := HP.out; simp [intOf]; omega
            · have hok : Hid (indep f s = ok) := Lib.hid (by
                cases ok
                · exact H3.out rfl
                · have h0 : t = 0 := Classical.byContradiction (fun h => hgo ⟨h, rfl⟩)
                  have := H2.out rfl
                  rw [h0] at this
                  exact (fit_end f s).1 this)
              clear H1 H2 H3
              have HS := Lib.hid (fun y : Later v.val.heap.size v.val => c_size_sub y s (by omega))
              have hgb := grow_bound (indep f) s
              have HN := Lib.hid (@grow_no (indep f) s)
              have HE := Lib.hid (@grow_new (indep f) s)
              have HM := Lib.hid (@grow_more (indep f) s)
              have hz := sz_le s
              have HTy : Hid (∀ y : Later v.val.heap.size v.val, Two y.val g 60 (.int .i64 m) (.slice ad (ints (grow (indep f) s).1).length cp)) := Lib.hid (fun y => HT.out.keep_at y.below hgv)
              have q1 : ∀ y : Later v.val.heap.size v.val, y.val.cell? ⟨g, 1, none⟩ = some (.slice ad (ints (grow (indep f) s).1).length cp) := fun y => (HTy.out y).c1
              have q2 : ∀ y : Later v.val.heap.size v.val, y.val.frozen? ⟨g, 1, none⟩ = false := fun y => (HTy.out y).fz 1
              obtain ⟨z, hz⟩ : ∃ z : Option Addr × List Int, z = (none, []) := ⟨_, rfl⟩
              obtain ⟨z, xs0⟩ := z
              have q3 : ∀ y : Later v.val.heap.size v.val, (y.val.setCell ⟨g, 1, none⟩ (.slice none 0 0)).cell? ⟨g, 1, none⟩ = some (.slice z xs0.length 0) := fun y => by cases hz; exact ((HTy.out y).set1 _).c1
              have HZ := Lib.hid hz; clear hz
              have hLl : Hid ((ints (grow (indep f) s).1).length ≤ 256) := Lib.hid (by rw [ints_len]; omega)
              have hdone : t = 0 ∨ ok = false := by
                cases ok
                · exact .inr rfl
                · exact .inl (Classical.byContradiction (fun h => hgo ⟨h, rfl⟩))
              clear hgo
              have hdone2 : Hid (ok = true → t = 0) := Lib.hid (fun h => by rcases hdone with h1 | h1; exact h1; rw [h] at h1; cases h1)
              clear hdone
              generalize hM : (grow (indep f) s).2 = M at *
              have HMq := Lib.hid hM; clear hM
              generalize hLL : (grow (indep f) s).1 = L at *
              have HLq := Lib.hid hLL; clear hLL
              cases ok
              · have HN2 := Lib.hid (HN.out (fun h => by rw [hok.out] at h; cases h.1))
                clear HN HE HM
                by_cases h0 : t = 0
                · subst h0
                  rw [show ((0:Nat):Int) = 0 from rfl]
                  go_wp2
                  go_roundw
                  case rel => exact ⟨s+1, ad, cp, v.up x, by omega, by go_num, by rw [HN2.out, HMq.out], rfl, by have := x.size; show g < x.val.heap.size; omega, by rw [HN2.out, HLq.out]; exact HTy.out x, by rw [HN2.out, HLq.out]; exact HO.out.keep x.below⟩
                  case measure => simp [intOf]; omega
                · have d0 : ((t : Int) != 0) = true := by simp; omega
                  go_wp2
                  go_roundw
                  case rel => exact ⟨s+1, ad, cp, v.up x, by omega, by go_num, by rw [HN2.out, HMq.out], rfl, by have := x.size; show g < x.val.heap.size; omega, by rw [HN2.out, HLq.out]; exact HTy.out x, by rw [HN2.out, HLq.out]; exact HO.out.keep x.below⟩
                  case measure => simp [intOf]; omega
              · have ht0 := hdone2.out rfl
                subst ht0
                clear hdone2 ht
                rw [show ((0:Nat):Int) = 0 from rfl]
                rcases ilt (sz s : Int) M with ⟨g1, d1⟩ | ⟨g1, d1⟩
                · have HN2 := Lib.hid (HN.out (fun h => by have := h.2; omega))
                  clear HN HE HM
                  go_wp2_with (first | (go_at_call 116; refine (HS.out _).mono ?_; rintro e _ ⟨rfl, y, rfl⟩))
                  go_roundw
                  case rel => exact ⟨s+1, ad, cp, v.up y, by omega, by go_num, by rw [HN2.out, HMq.out], rfl, by have := y.size; show g < y.val.heap.size; omega, by rw [HN2.out, HLq.out]; exact HTy.out y, by rw [HN2.out, HLq.out]; exact HO.out.keep y.below⟩
                  case measure => simp [intOf]; omega
                · rcases ilt M (sz s : Int) with ⟨g2, d2⟩ | ⟨g2, d2⟩
                  · have HN2 := Lib.hid (HE.out hok.out g2)
                    clear HN HE HM
                    go_wp2_with (first | (go_at_call 116; refine (HS.out _).mono ?_; rintro e _ ⟨rfl, y, rfl⟩) | (at_builtin; refine wpList_push (B := g+1) (W := y.val.setCell ⟨g, 1, none⟩ (.slice none 0 0)) (w := y.val.setCell ⟨g, 1, none⟩ (.slice none 0 0)) (Below.refl _ _) (by have := y.size; simp; omega) rfl _ _ rfl xs0 z 0 (s : Int) rfl (by have := HZ.out; cases this; exact Own.nil _ _) (by rw [show (y.val.setCell ⟨g, 1, none⟩ (.slice none 0 0)).heap.size = y.val.heap.size by simp [World.setCell]]; rfl) (by have := HZ.out; cases this; simp) ?_; intro u2 ad2 cp2 hown; have T4 := ((HTy.out y).set1 (.slice none 0 0)).keep_at u2.below (Nat.lt_succ_self g); have e4 := T4.c1; have e5 := T4.fz 1; have T5 := Lib.hid T4; clear T4))
                    go_roundw
                    case rel =>
                      have hgW : W1.heap.size ≤ g := hB3
                      have hz := HZ.out
                      cases hz
                      refine ⟨s+1, ad2, cp2, (((v.up y).set ⟨g, 1, none⟩ hgW (.slice none 0 0)).to u2.val (u2.below.mono (by omega))).set ⟨g, 1, none⟩ hgW _, by omega, by go_num, by rw [HN2.out], rfl, ?_, ?_, ?_⟩
                      · have h1 := u2.size
                        show g < (u2.val.setCell _ _).heap.size
                        simp; omega
                      · rw [HN2.out]; exact T5.out.set1 _
                      · rw [HN2.out]; exact hown.set (Nat.lt_succ_self g) _
                    case measure => simp [intOf]; omega
                  · have HN2 := Lib.hid (HM.out hok.out (by omega))
                    clear HN HE HM
                    go_wp2_with (first | (go_at_call 116; refine (HS.out _).mono ?_; rintro e _ ⟨rfl, y, rfl⟩) | (at_builtin; refine wpList_push (B := g+1) (W := y.val) (w := y.val) (Below.refl _ _) (by have := y.size; omega) rfl _ _ rfl (ints L) ad cp (s : Int) rfl (HO.out.keep y.below) rfl (by have := hLl.out; omega) ?_; intro u2 ad2 cp2 hown; have T4 := (HTy.out y).keep_at u2.below (Nat.lt_succ_self g); have e4 := T4.c1; have e5 := T4.fz 1; have T5 := Lib.hid T4; clear T4))
                    go_roundw
                    case rel =>
                      have hgW : W1.heap.size ≤ g := hB3
                      refine ⟨s+1, ad2, cp2, ((v.up y).to u2.val (u2.below.mono (by omega))).set ⟨g, 1, none⟩ hgW _, by omega, by go_num, by rw [HN2.out], rfl, ?_, ?_, ?_⟩
                      · have h1 := u2.size
                        show g < (u2.val.setCell _ _).heap.size
                        simp; omega
                      · rw [HN2.out, ints_snoc, show (ints L ++ [(s : Int)]).length = (ints L).length + 1 by simp]; exact T5.out.set1 _
                      · rw [HN2.out, ints_snoc]; exact hown.set (Nat.lt_succ_self g) _
                    case measure => simp [intOf]; omega
        · have hse : Hid (s = f.length) := Lib.hid (by omega)
          have q0 := HT.out.c0; have q1 := HT.out.c1
          have T1 := T0.out.keep_at v.below hr
          have e0 := T1.c0; have e1 := T1.c1; have e2 := T1.fz 0; have e3 := T1.fz 1
          have T2 := T1.set0 (.int .i64 m)
          have e4 := T2.c1; have e5 := T2.fz 1
          have T3 := Lib.hid (T2.set1 (.slice ad (ints (grow (indep f) s).1).length cp))
          clear T1 T2
          go_wp2
          refine bodyPost_ret (results_two rfl _ _ r rfl T3.out Try.underlying60 (by kernel_rfl)) rfl ?_
          obtain ⟨v', hv'⟩ := HU.out v
          rw [← hv'] at HO ⊢
          refine RetP.mk (v'.set ⟨r, 0, none⟩ hB _ |>.set ⟨r, 1, none⟩ hB _) ?_
          refine ⟨_, rfl, ?_⟩
          have hrg : r < g + 1 := by omega
          have := Reads.of_own ((HO.out.set (i := 0) hrg (.int .i64 m)).set (i := 1) hrg (.slice ad (ints (grow (indep f) s).1).length cp))
          have hall : (grow (indep f) s).1 = biggest (those m (indep f)) := by rw [hse.out, HL.out]; exact grow_all _ _
          rw [if_pos rfl]
          rw [hall] at this ⊢
          exact this

end Go.Proofs.Ytcljgnmlpfddiaa
