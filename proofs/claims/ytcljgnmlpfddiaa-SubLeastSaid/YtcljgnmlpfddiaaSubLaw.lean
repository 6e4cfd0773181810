/-
  rotalaw.SubLeast returns true, whatever it is handed.
-/
import Derived.Test.YtcljgnmlpfddiaaSubCut
import Derived.Deep.CutRange
import Derived.Deep.CutBlock
namespace Go.Proofs.Ytcljgnmlpfddiaa
open Go.RowKit
set_option linter.unusedVariables false

/-- the law's own look for a pair that falls: behind s sets -/
def MonoTo (f : List Int) (s : Nat) : Prop := ∀ j, j < s → ∀ t, t < j → t ||| j = j → f.getD t 0 ≤ f.getD j 0
theorem MonoTo.all {f : List Int} : MonoTo f f.length ↔ Mono f := Iff.rfl
def kIs (f : List Int) (s : Nat) (q : Int) : Prop := (q = 0 ∧ MonoTo f s) ∨ (q = 3 ∧ ¬ Mono f)
theorem kIs.e {f : List Int} {s : Nat} {q : Int} (h : kIs f s q) : q = 0 ∨ q = 3 := by rcases h with ⟨h, _⟩ | ⟨h, _⟩ <;> simp [h]
def kIs2 (f : List Int) (s t : Nat) (q : Int) : Prop := (q = 0 ∧ MonoTo f s ∧ ∀ t', t' < t → t' ||| s = s → f.getD t' 0 ≤ f.getD s 0) ∨ (q = 3 ∧ ¬ Mono f)
theorem kIs2.start {f : List Int} {s : Nat} {q : Int} (h : kIs f s q) : kIs2 f s 0 q := by
  rcases h with ⟨h1, h2⟩ | h
  · exact .inl ⟨h1, h2, fun t' h => by omega⟩
  · exact .inr h
theorem kIs2.skip {f : List Int} {s t : Nat} {q : Int} (h : kIs2 f s t q) (g : t ||| s = s → f.getD t 0 ≤ f.getD s 0) : kIs2 f s (t+1) q := by
  rcases h with ⟨h1, h2, h3⟩ | h
  · refine .inl ⟨h1, h2, fun t' h g' => ?_⟩
    by_cases e : t' = t
    · subst e; exact g g'
    · exact h3 t' (by omega) g'
  · exact .inr h
theorem kIs2.bad {f : List Int} {s t : Nat} (hs : s < f.length) (ht : t < s) (g1 : t ||| s = s) (g2 : f.getD s 0 < f.getD t 0) : kIs2 f s (t+1) 3 :=
  .inr ⟨rfl, fun h => by have := h s hs t ht g1; omega⟩
theorem kIs2.stop {f : List Int} {s : Nat} {q : Int} (h : kIs2 f s s q) : kIs f (s+1) q := by
  rcases h with ⟨h1, h2, h3⟩ | h
  · refine .inl ⟨h1, fun j hj t ht g => ?_⟩
    by_cases e : j = s
    · subst e; exact h3 t ht g
    · exact h2 j (by omega) t ht g
  · exact .inr h
theorem kIs.stop {f : List Int} {k q : Int} (h : kIs f f.length q) (hk : IndIs f 0 k) : q = k := by
  rcases h with ⟨h1, h2⟩ | ⟨h1, h2⟩
  · rw [h1, hk.2.1 rfl h2]
  · rw [h1, hk.2.2 rfl h2]

/-- what the law reckons behind its first loop -/
def LowRes (f : List Int) (e k : Int) (k' x y z : Value) : Prop := k' = .int .i64 k ∧ x = .int .i64 (if e = 0 then lmin f else 0) ∧ y = .int .i64 (if e = 0 then (lowTo f (lmin f) f.length f.length : Int) else 0) ∧ z = .int .i64 (if e = 0 then (highTo f (lmin f) f.length : Int) else 0)

theorem inHund_iff {c : List Int} (h0 : 0 < c.length) : inHund c c.length ↔ 0 ≤ lmin c ∧ lmax c ≤ 100 := by
  constructor
  · intro h
    obtain ⟨i, hi, e⟩ := minTo_mem c c.length
    obtain ⟨j, hj, e2⟩ := maxTo_mem c c.length
    have h1 := h i (by omega)
    have h2 := h j (by omega)
    unfold lmin lmax
    omega
  · rintro ⟨h1, h2⟩ i hi
    have := minTo_le c (k := c.length) hi
    have := maxTo_ge c (k := c.length) hi
    unfold lmin at h1; unfold lmax at h2
    omega

/-- a number in a slot, in a later world -/
def NumIn (W : World) (x : Int) (o : Value) (w : World) : Prop := (∃ v : Later W.heap.size W, w = v.val) ∧ o = .int .i64 x
def cutErr0 (gn : Int) (es : List (Int × Int)) (c : List Int) : Int := if isGraph gn es then (if c.length = es.length then 0 else 3) else 1

set_option maxRecDepth 100000 in
set_option maxHeartbeats 40000000 in
theorem law_subLeast {B : Nat} {W : World} (u : Later B W) (n gn : Int) (f c : List Int) (es : List (Int × Int)) (a ae ac : Option Addr) (cap ce cc : Nat) (hf : IntsAt B W a f) (he : EdgesAt B W ae es) (hc : IntsAt B W ac c) (hlf : f.length ≤ 4611686018427387904) (hle : es.length ≤ 4611686018427387904) (hlc : c.length ≤ 4611686018427387904) :
    Calls Try.prog 10 #[.int .i64 n, .slice a f.length cap, .agg #[.int .i64 gn, .slice ae es.length ce], .slice ac c.length cc] u.val (Ret B W (.bool true)) := by
  obtain ⟨e, hse⟩ := SlwIs.ex n f
  obtain ⟨k, hk⟩ := IndIs.ex f e
  -- the graph lies in a block of its own
  have T0 : Hid (Two (u.val.alloc (.cells #[.int .i64 gn, .slice ae es.length ce] 27)) u.val.heap.size 27 (.int .i64 gn) (.slice ae es.length ce)) := Lib.hid (Two.new _ _ _ _)
  have hr : u.val.heap.size < (u.val.alloc (.cells #[.int .i64 gn, .slice ae es.length ce] 27)).heap.size := by simp
  have HV : Hid (∀ v : Later (u.val.alloc (.cells #[.int .i64 gn, .slice ae es.length ce] 27)).heap.size (u.val.alloc (.cells #[.int .i64 gn, .slice ae es.length ce] 27)), ∃ w : Later B W, w.val = v.val) := Lib.hid (fun v => ⟨(u.alloc _).up v, rfl⟩)
  have HE : Hid (EdgesAt (u.val.alloc (.cells #[.int .i64 gn, .slice ae es.length ce] 27)).heap.size (u.val.alloc (.cells #[.int .i64 gn, .slice ae es.length ce] 27)) ae es) := Lib.hid (he.to (u.alloc _))
  have HF : Hid (IntsAt (u.val.alloc (.cells #[.int .i64 gn, .slice ae es.length ce] 27)).heap.size (u.val.alloc (.cells #[.int .i64 gn, .slice ae es.length ce] 27)) a f) := Lib.hid (hf.to (u.alloc _))
  have HCc : Hid (IntsAt (u.val.alloc (.cells #[.int .i64 gn, .slice ae es.length ce] 27)).heap.size (u.val.alloc (.cells #[.int .i64 gn, .slice ae es.length ce] 27)) ac c) := Lib.hid (hc.to (u.alloc _))
  have hu := u.size
  clear hf he hc
  generalize hr2 : u.val.heap.size = r at *
  generalize hW1 : u.val.alloc (.cells #[.int .i64 gn, .slice ae es.length ce] 27) = W1 at *
  have HC1 : Hid (Calls Try.prog 55 #[.int .i64 n, .slice a f.length cap] W1 (Ret W1.heap.size W1 (.int .i64 e))) := Lib.hid (c_slower (Later.self W1) n f a cap e HF.out hlf hse)
  have HC2 : Hid (∀ v : Later W1.heap.size W1, Calls Try.prog 56 #[.int .i64 n, .slice a f.length cap] v.val (Ret W1.heap.size W1 _)) := Lib.hid (fun v => c_least v n f a cap e HF.out hlf hse)
  have HC3 := Lib.hid (fun v : Later W1.heap.size W1 => c_subInduced v n f a cap e k HF.out hlf hse hk)
  subst hW1
  subst hr2
  have hX : ∃ X, X = (if e = 0 then lmin f else 0) := ⟨_, rfl⟩
  have hY : ∃ Y, Y = (if e = 0 then (lowTo f (lmin f) f.length f.length : Int) else 0) := ⟨_, rfl⟩
  have hZ : ∃ Z, Z = (if e = 0 then (highTo f (lmin f) f.length : Int) else 0) := ⟨_, rfl⟩
  have hN : ∃ N, N = (if k = 0 then n else 0) := ⟨_, rfl⟩
  have hL : ∃ L, L = (if k = 0 then ints (biggest (those n.toNat (indep f))) else []) := ⟨_, rfl⟩
  obtain ⟨X, hX⟩ := hX; obtain ⟨Y, hY⟩ := hY; obtain ⟨Z, hZ⟩ := hZ; obtain ⟨N, hN⟩ := hN; obtain ⟨L, hL⟩ := hL
  rw [← hX, ← hY, ← hZ] at HC2
  unfold RetMatE MatE at HC3
  rw [← hN, ← hL] at HC3
  have HX := Lib.hid hX; have HY := Lib.hid hY; have HZ := Lib.hid hZ; have HN := Lib.hid hN; have HL := Lib.hid hL
  clear hX hY hZ hN hL
  have HS := Lib.hid hse; have HK := Lib.hid hk
  clear hse hk
  go_enter Try.func10, Try.ntmps10
  go_upto_if 50 with (first | (go_at_call 55; refine (HC1.out).mono ?_; rintro e _ ⟨rfl, y1, rfl⟩) | (go_at_call 56; refine (HC2.out _).mono ?_; rintro e _ ⟨rfl, y2, rfl⟩) | (go_at_call 57; refine (HC3.out _).mono ?_; rintro e _ ⟨_, rfl, ⟨_, rfl, ⟨ad, cp, rfl, HI1, hcp1⟩⟩, v1, rfl⟩))
  -- the next context: the world behind the first two matroids' blocks
  have HIL : Hid (IntsAt v1.val.heap.size v1.val ad L) := Lib.hid HI1
  clear HI1 hcp1 HC1 HC2 HC3
  have q0 : ∀ w : Later v1.val.heap.size v1.val, w.val.cell? ⟨u.val.heap.size, 0, none⟩ = some (.int .i64 gn) := fun w => ((T0.out.keep_at v1.below hr).keep w.below).c0
  have q1 : ∀ w : Later v1.val.heap.size v1.val, w.val.cell? ⟨u.val.heap.size, 1, none⟩ = some (.slice ae es.length ce) := fun w => ((T0.out.keep_at v1.below hr).keep w.below).c1
  have hrv : u.val.heap.size < v1.val.heap.size := by have := v1.size; omega
  have HV2 : Hid (∀ v : Later v1.val.heap.size v1.val, ∃ w : Later B W, w.val = v.val) := Lib.hid (fun v => by
    obtain ⟨w, hw⟩ := HV.out v1
    exact ⟨w.to v.val (by rw [hw]; exact v.below.mono (by rw [← hw]; exact w.size)), rfl⟩)
  have HE2 := Lib.hid (HE.out.to v1)
  have HF2 := Lib.hid (HF.out.to v1)
  have HCc2 := Lib.hid (HCc.out.to v1)
  have Tm : Hid (Two (v1.val.alloc (.cells #[.int .i64 N, .slice ad L.length cp] 60)) v1.val.heap.size 60 (.int .i64 N) (.slice ad L.length cp)) := Lib.hid (Two.new _ _ _ _)
  clear T0 HE HF HCc HV hr
  generalize hg6 : u.val.heap.size = g6 at *
  generalize v1.val = W1 at *
  clear hg6 v1 y1 y2 u
  have HV3 : Hid (∀ v : Later (W1.alloc (.cells #[.int .i64 N, .slice ad L.length cp] 60)).heap.size (W1.alloc (.cells #[.int .i64 N, .slice ad L.length cp] 60)), ∃ w : Later W1.heap.size W1, w.val = v.val) := Lib.hid (fun v => ⟨((Later.self W1).alloc _).up v, rfl⟩)
  have HIL2 : Hid (IntsAt (W1.alloc (.cells #[.int .i64 N, .slice ad L.length cp] 60)).heap.size (W1.alloc (.cells #[.int .i64 N, .slice ad L.length cp] 60)) ad L) := Lib.hid (HIL.out.to ((Later.self W1).alloc _))
  have HE3 : Hid (EdgesAt (W1.alloc (.cells #[.int .i64 N, .slice ad L.length cp] 60)).heap.size (W1.alloc (.cells #[.int .i64 N, .slice ad L.length cp] 60)) ae es) := Lib.hid (HE2.out.to ((Later.self W1).alloc _))
  have HF3 : Hid (IntsAt (W1.alloc (.cells #[.int .i64 N, .slice ad L.length cp] 60)).heap.size (W1.alloc (.cells #[.int .i64 N, .slice ad L.length cp] 60)) a f) := Lib.hid (HF2.out.to ((Later.self W1).alloc _))
  have HCc3 : Hid (IntsAt (W1.alloc (.cells #[.int .i64 N, .slice ad L.length cp] 60)).heap.size (W1.alloc (.cells #[.int .i64 N, .slice ad L.length cp] 60)) ac c) := Lib.hid (HCc2.out.to ((Later.self W1).alloc _))
  have p0 : ∀ w : Later (W1.alloc (.cells #[.int .i64 N, .slice ad L.length cp] 60)).heap.size (W1.alloc (.cells #[.int .i64 N, .slice ad L.length cp] 60)), w.val.cell? ⟨W1.heap.size, 0, none⟩ = some (.int .i64 N) := fun w => (Tm.out.keep w.below).c0
  have p1 : ∀ w : Later (W1.alloc (.cells #[.int .i64 N, .slice ad L.length cp] 60)).heap.size (W1.alloc (.cells #[.int .i64 N, .slice ad L.length cp] 60)), w.val.cell? ⟨W1.heap.size, 1, none⟩ = some (.slice ad L.length cp) := fun w => (Tm.out.keep w.below).c1
  have hgm : W1.heap.size < (W1.alloc (.cells #[.int .i64 N, .slice ad L.length cp] 60)).heap.size := by simp
  have hg20 : W1.heap.size + 1 = (W1.alloc (.cells #[.int .i64 N, .slice ad L.length cp] 60)).heap.size := by simp
  have q0' : ∀ w : Later (W1.alloc (.cells #[.int .i64 N, .slice ad L.length cp] 60)).heap.size (W1.alloc (.cells #[.int .i64 N, .slice ad L.length cp] 60)), w.val.cell? ⟨g6, 0, none⟩ = some (.int .i64 gn) := fun w => by
    obtain ⟨w', hw⟩ := HV3.out w
    rw [← hw]; exact q0 w'
  have q1' : ∀ w : Later (W1.alloc (.cells #[.int .i64 N, .slice ad L.length cp] 60)).heap.size (W1.alloc (.cells #[.int .i64 N, .slice ad L.length cp] 60)), w.val.cell? ⟨g6, 1, none⟩ = some (.slice ae es.length ce) := fun w => by
    obtain ⟨w', hw⟩ := HV3.out w
    rw [← hw]; exact q1 w'
  have HV4 : Hid (∀ w : Later (W1.alloc (.cells #[.int .i64 N, .slice ad L.length cp] 60)).heap.size (W1.alloc (.cells #[.int .i64 N, .slice ad L.length cp] 60)), ∃ w' : Later B W, w'.val = w.val) := Lib.hid (fun w => by
    obtain ⟨w', hw⟩ := HV3.out w
    rw [← hw]; exact HV2.out w')
  clear q0 q1 HE2 HF2 HCc2 HIL HV2 HV3 Tm
  generalize hW2 : W1.alloc (.cells #[.int .i64 N, .slice ad L.length cp] 60) = W2 at *
  clear hW2
  have T20 : Hid (Two (W2.alloc (.cells #[.int .i64 0, .slice none 0 0] 60)) W2.heap.size 60 (.int .i64 0) (.slice none 0 0)) := Lib.hid (Two.new _ _ _ _)
  rw [hg20]
  generalize hg14 : W1.heap.size = g14 at *
  clear hg14 hg20 W1
  go_cut [16, 17, 18, 19] from 48 to 91 (fun k' x y z w => LowRes f e k k' x y z ∧ ∃ v : Later (W2.alloc (.cells #[.int .i64 0, .slice none 0 0] 60)).heap.size (W2.alloc (.cells #[.int .i64 0, .slice none 0 0] 60)), w = v.val)
  case first => as_aux_lemma =>
    have HF4 : Hid (IntsAt (W2.alloc (.cells #[.int .i64 0, .slice none 0 0] 60)).heap.size (W2.alloc (.cells #[.int .i64 0, .slice none 0 0] 60)) a f) := Lib.hid (HF3.out.to ((Later.self W2).alloc _))
    clear p0 p1 q0' q1' HF3 HE3 HCc3 HIL2 HV4 T20
    generalize W2.alloc (.cells #[.int .i64 0, .slice none 0 0] 60) = W3 at *
    rcases ieq e 0 with ⟨g, d1, d2⟩ | ⟨g, d1, d2⟩
    case inr =>
      have hke : Hid (k = e) := Lib.hid (HK.out.1 g)
      have HG := Lib.hid g
      clear g
      go_wp2
      go_meet
      case rel => exact ⟨⟨vint hke.out.symm, vint (by rw [if_neg HG.out]), vint (by rw [if_neg HG.out]), vint (by rw [if_neg HG.out])⟩, Later.self _, rfl⟩
    subst g
    obtain ⟨hf, hg⟩ := HS.out.zero
    obtain ⟨m, rfl⟩ := Int.eq_ofNat_of_zero_le hf.1
    have hm : m ≤ 8 := by have := hf.2.1; omega
    have hb := bit_le m hm
    have hbc := bit_cast m
    have hl := hf.len
    have hl1 : f.length ≤ 256 := by omega
    have hl2 : 1 ≤ f.length := by omega
    have HLn := Lib.hid hl
    have HMin := Lib.hid (fun u : Later W3.heap.size W3 => c_min u f a cap HF4.out (by omega) hlf)
    have HAll := Lib.hid (fun u : Later W3.heap.size W3 => c_all u (m : Int) (by omega) (by omega))
    have hla : Hid (all (m : Int) = ((f.length - 1 : Nat) : Int)) := Lib.hid (by rw [all_nat, hl])
    rw [hla.out] at HAll
    obtain ⟨b, off, rfl, hbB, hcell⟩ := HF4.out.at (k := 0) (by omega)
    have HI := Lib.hid hcell
    clear hf hg hl hcell HF4
    go_wp2_with (first | (go_at_call 58; refine (HMin.out (Later.self W3)).mono ?_; rintro e _ ⟨rfl, y1, rfl⟩) | (go_at_call 59; refine (HAll.out _).mono ?_; rintro e _ ⟨rfl, v0, rfl⟩))
    have HE1 : ∀ j, Hid (lowTo f (lmin f) f.length (j+1) = if f.getD j 0 = lmin f then lowTo f (lmin f) f.length j &&& j else lowTo f (lmin f) f.length j) := fun j => Lib.hid rfl
    have HE2 : ∀ j, Hid (highTo f (lmin f) (j+1) = if f.getD j 0 = lmin f then highTo f (lmin f) j ||| j else highTo f (lmin f) j) := fun j => Lib.hid rfl
    go_loopw [16, 18, 19, 57] (fun q y z i wr => ∃ (s : Nat) (qq : Int) (v : Later W3.heap.size W3), s ≤ f.length ∧ i = .int .i64 s ∧ q = .int .i64 qq ∧ y = .int .i64 (lowTo f (lmin f) f.length s) ∧ z = .int .i64 (highTo f (lmin f) s) ∧ wr = v.val ∧ Hid (kIs f s qq)) (fun _ _ _ i _ => f.length - (intOf i).toNat)
    case atStart => exact ⟨0, 0, v0, by omega, rfl, rfl, rfl, rfl, rfl, Lib.hid (.inl ⟨rfl, fun j hj => by omega⟩)⟩
    case round =>
      clear v0 y1
      obtain ⟨s, qq, v0, hs, rfl, rfl, rfl, rfl, rfl, HQ⟩ := hrel
      by_cases hlt : s < f.length
      · have c0 : ∀ w : Later W3.heap.size W3, w.val.cell? ⟨b, off + s, none⟩ = some (.int .i64 (f.getD s 0)) := fun w => HI.out w s hlt
        have E1 := HE1 s
        have E2 := HE2 s
        have b1 := lowTo_le f (lmin f) f.length s
        have b2 := highTo_lt f (lmin f) s (by omega)
        clear HE1 HE2
        generalize hxx : f.getD s 0 = x at *
        generalize lmin f = mn at *
        generalize lowTo f mn f.length s = p at *
        generalize highTo f mn s = q at *
        have HXX := Lib.hid hxx; clear hxx
        have hand := i64_and p s (by omega) (by omega)
        have hor := i64_or q s (by omega) (by omega)
        go_upto_if 65 with fail
        go_cut [18, 19] from 59 to 91 (fun y z w => y = .int .i64 (lowTo f mn f.length (s+1)) ∧ z = .int .i64 (highTo f mn (s+1)) ∧ w = v0.val)
        case first => as_aux_lemma =>
          rcases ieq x mn with ⟨g, d1, d2⟩ | ⟨g, d1, d2⟩
          · rw [if_pos g] at E1 E2
            subst g
            go_wp2
            go_meet
            case rel => exact ⟨by rw [E1.out], by rw [E2.out], rfl⟩
          · rw [if_neg g] at E1 E2
            go_wp2
            go_meet
            case rel => exact ⟨by rw [E1.out], by rw [E2.out], rfl⟩
        case rest => as_aux_lemma =>
          obtain ⟨rfl, rfl, rfl⟩ := hcut
          clear hand hor
          go_wp2
          go_loopw [16, 73] (fun q' i wr => ∃ (t : Nat) (qq : Int) (v : Later W3.heap.size W3), t ≤ s ∧ i = .int .i64 t ∧ q' = .int .i64 qq ∧ wr = v.val ∧ Hid (kIs2 f s t qq)) (fun _ i _ => s - (intOf i).toNat)
          case atStart => exact ⟨0, qq, v0, by omega, rfl, rfl, rfl, Lib.hid (kIs2.start HQ.out)⟩
          case round =>
            clear HQ
            obtain ⟨t, q2, v0, ht, rfl, rfl, rfl, HQ⟩ := hrel
            by_cases hlt2 : t < s
            · have c1 : ∀ w : Later W3.heap.size W3, w.val.cell? ⟨b, off + t, none⟩ = some (.int .i64 (f.getD t 0)) := fun w => HI.out w t (by omega)
              have HW := Lib.hid (fun w : Later W3.heap.size W3 => c_within w t s (by omega) (by omega))
              have HSk : Hid ((t ||| s = s → f.getD t 0 ≤ x) → kIs2 f s (t+1) q2) := Lib.hid (fun g => kIs2.skip HQ.out (by rw [HXX.out]; exact g))
              have HBd : Hid (t ||| s = s → x < f.getD t 0 → kIs2 f s (t+1) 3) := Lib.hid (fun g1 g2 => kIs2.bad hlt hlt2 g1 (by rw [HXX.out]; exact g2))
              generalize f.getD t 0 = z at *
              by_cases hw : t ||| s = s
              · have HW2 := Lib.hid (fun u => dcall_t (HW.out u) hw); clear HW
                rcases ilt x z with ⟨g1, d1⟩ | ⟨g1, d1⟩
                · have HN := Lib.hid (HBd.out hw g1)
                  clear hw HSk HBd
                  go_wp2
                  refine wp_region_later v0 (by kernel_rfl) (by kernel_rfl) (fun _ => ?_)
                  repeat (go_big_quiet_step (((go_at_call 60; exact HW2.out _))))
                  refine wpQuiet_nil ?_
                  intro v0
                  go_wp2
                  go_roundw
                  case rel => exact ⟨t+1, 3, v0, by omega, by go_num, rfl, rfl, HN⟩
                  case measure => simp [intOf]; omega
                · have HN := Lib.hid (HSk.out (fun _ => g1))
                  clear hw HSk HBd
                  go_wp2
                  refine wp_region_later v0 (by kernel_rfl) (by kernel_rfl) (fun _ => ?_)
                  repeat (go_big_quiet_step (((go_at_call 60; exact HW2.out _))))
                  refine wpQuiet_nil ?_
                  intro v0
                  go_wp2
                  go_roundw
                  case rel => exact ⟨t+1, q2, v0, by omega, by go_num, rfl, rfl, HN⟩
                  case measure => simp [intOf]; omega
              · have HW2 := Lib.hid (fun u => dcall_f (HW.out u) hw); clear HW
                have HN := Lib.hid (HSk.out (fun h => absurd h hw))
                clear hw HSk HBd
                go_wp2
                refine wp_region_later v0 (by kernel_rfl) (by kernel_rfl) (fun _ => ?_)
                repeat (go_big_quiet_step (((go_at_call 60; exact HW2.out _))))
                refine wpQuiet_nil ?_
                intro v0
                go_wp2
                go_roundw
                case rel => exact ⟨t+1, q2, v0, by omega, by go_num, rfl, rfl, HN⟩
                case measure => simp [intOf]; omega
            · have hte : Hid (t = s) := Lib.hid (by omega)
              have HQ2 : Hid (kIs f (s+1) q2) := Lib.hid (by have := HQ.out; rw [hte.out] at this; exact kIs2.stop this)
              go_wp2
              go_roundw
              case rel => exact ⟨s+1, q2, v0, by omega, by go_num, rfl, rfl, rfl, rfl, HQ2⟩
              case measure => simp [intOf]; omega
      · have hse : Hid (s = f.length) := Lib.hid (by omega)
        have hqk : Hid (qq = k) := Lib.hid (by have := HQ.out; rw [hse.out] at this; exact kIs.stop this HK.out)
        go_wp2
        go_meet
        case rel => exact ⟨⟨vint hqk.out, vint (by rw [if_pos rfl]), vint (by rw [if_pos rfl, hse.out]), vint (by rw [if_pos rfl, hse.out])⟩, v0, rfl⟩
  case rest => as_aux_lemma =>
    obtain ⟨⟨hk', hx, hy, hz⟩, v, rfl⟩ := hcut
    rw [← HX.out] at hx
    rw [← HY.out] at hy
    rw [← HZ.out] at hz
    subst hk' hx hy hz
    have HX0 : Hid (if e = 0 then X = X else X = 0) := Lib.hid (by have h1 := HX.out; by_cases h : e = 0 <;> simp [h] at h1 ⊢; exact h1)
    have HY0 : Hid (if e = 0 then Y = Y else Y = 0) := Lib.hid (by have h1 := HY.out; by_cases h : e = 0 <;> simp [h] at h1 ⊢; exact h1)
    have HZ0 : Hid (if e = 0 then Z = Z else Z = 0) := Lib.hid (by have h1 := HZ.out; by_cases h : e = 0 <;> simp [h] at h1 ⊢; exact h1)
    clear HX HY HZ
    have hz20 : W2.heap.size < (W2.alloc (.cells #[.int .i64 0, .slice none 0 0] 60)).heap.size := by simp
    have T21 := Lib.hid (T20.out.keep_at v.below hz20)
    have hz21 : W2.heap.size < v.val.heap.size := T21.out.lt
    have HVv : Hid (∃ v' : Later W2.heap.size W2, v'.val = v.val) := Lib.hid ⟨((Later.self W2).alloc _).up v, rfl⟩
    have HRI : Hid (k = 0 → ∃ m : Nat, n = m ∧ Calls Try.prog 61 #[.int .i64 n, .slice a f.length cap] v.val (RetP v.val.heap.size v.val (MatO v.val.heap.size m (ints (biggest (those m (indep f))))))) := Lib.hid (fun h0 => by
      have he0 : e = 0 := Classical.byContradiction (fun h => h (by have := HK.out.1 h; omega))
      have hs0 := HS.out
      rw [he0] at hs0
      obtain ⟨hf, _⟩ := hs0.zero
      obtain ⟨m, hm0⟩ := Int.eq_ofNat_of_zero_le hf.1
      subst hm0
      have hI := HF3.out.to (((Later.self W2).alloc (.cells #[.int .i64 0, .slice none 0 0] 60)).up v)
      exact ⟨m, rfl, c_refInduced_own (Later.self v.val) m (by have := hf.2.1; omega) f a cap hI hf.len⟩)
    clear T20 hz20
    generalize hvv : v.val = V at *
    clear hvv v
    go_upto_if 93 with fail
    go_cut [17] from 92 to 96 (fun x w => x = .int .i64 X ∧ ∃ (v : Later W2.heap.size W2) (N' : Int) (L' : List Int) (ad' : Option Addr) (cp' : Nat), w = v.val ∧ Hid (Two v.val W2.heap.size 60 (.int .i64 N') (.slice ad' L'.length cp')) ∧ Hid (IntsAt v.val.heap.size v.val ad' L') ∧ Hid (k = 0 → N' = n ∧ L' = ints (biggest (those n.toNat (indep f)))))
    case first => as_aux_lemma =>
      clear p0 p1 q0' q1' HF3 HE3 HCc3 HIL2 HV4
      rcases ieq k 0 with ⟨g, d1, d2⟩ | ⟨g, d1, d2⟩
      case inr =>
        have HG := Lib.hid g
        clear g
        go_wp2
        go_meet
        case rel =>
          obtain ⟨v, rfl⟩ := HVv.out
          exact ⟨rfl, v, 0, [], none, 0, rfl, T21, Lib.hid IntsAt.nil, Lib.hid (fun h => absurd h HG.out)⟩
      obtain ⟨m, hnm, HR⟩ := HRI.out g
      have HR1 := Lib.hid HR
      subst hnm
      clear HR HRI g
      go_wp2_with (first | (go_at_call 61; refine (HR1.out).mono ?_; rintro e _ ⟨_, rfl, ⟨ad2, cp2, rfl, hI2⟩, v2, rfl⟩; have T1 := T21.out.keep v2.below; have e0 := T1.c0; have e1 := T1.c1; have e2 := T1.fz 0; have e3 := T1.fz 1; have T2 := T1.set0 (.int .i64 m); have e4 := T2.c1; have e5 := T2.fz 1; have T3 := Lib.hid (T2.set1 (.slice ad2 (ints (biggest (those m (indep f)))).length cp2)); clear T1 T2))
      go_meet
      case rel =>
        obtain ⟨v, rfl⟩ := HVv.out
        exact ⟨rfl, ((v.up v2).set ⟨W2.heap.size, 0, none⟩ (Nat.le_refl _) _).set ⟨W2.heap.size, 1, none⟩ (Nat.le_refl _) _, m, _, ad2, cp2, rfl, T3, Lib.hid ((hI2.set hz21 _).set hz21 _).reads, Lib.hid (fun _ => ⟨rfl, rfl⟩)⟩
    case rest => as_aux_lemma =>
      obtain ⟨rfl, v, N', L', ad', cp', rfl, HT, HIL', HKL⟩ := hcut
      have HTold : Hid (if k = 0 then N = N' ∧ L = L' else N = 0 ∧ L = []) := Lib.hid (by
        by_cases h : k = 0
        · rw [if_pos h]
          obtain ⟨h1, h2⟩ := HKL.out h
          exact ⟨by rw [HN.out, if_pos h, h1], by rw [HL.out, if_pos h, h2]⟩
        · rw [if_neg h]
          exact ⟨by rw [HN.out, if_neg h], by rw [HL.out, if_neg h]⟩)
      have hLl : Hid (L.length ≤ 4611686018427387904) := Lib.hid (by
        rw [HL.out]
        split
        · rw [ints_len, biggest_eq]
          have h1 := List.length_filter_le (fun s => sz s == mostTo (those n.toNat (indep f)) (those n.toNat (indep f)).length) (those n.toNat (indep f))
          have h2 := thoseTo_len (indep f) (bit n.toNat)
          have h3 : those n.toNat (indep f) = thoseTo (indep f) (bit n.toNat) := rfl
          have he0 : e = 0 := Classical.byContradiction (fun h => h (by have := HK.out.1 h; omega))
          have hs0 := HS.out
          rw [he0] at hs0
          obtain ⟨hf, _⟩ := hs0.zero
          have h4 := bit_le n.toNat (by have := hf.2.1; omega)
          rw [h3] at h1 ⊢
          omega
        · simp)
      clear HKL HRI HK HS HN HL hz21 T21 HVv
      -- the last context
      have HE4 := Lib.hid (HE3.out.to v)
      have HC4 := Lib.hid (HCc3.out.to v)
      have HIL4 := Lib.hid (HIL2.out.to v)
      have HIL5 := Lib.hid HIL'.out
      have r0 : ∀ w : Later v.val.heap.size v.val, w.val.cell? ⟨g6, 0, none⟩ = some (.int .i64 gn) := fun w => q0' (v.up w)
      have r1 : ∀ w : Later v.val.heap.size v.val, w.val.cell? ⟨g6, 1, none⟩ = some (.slice ae es.length ce) := fun w => q1' (v.up w)
      have r2 : ∀ w : Later v.val.heap.size v.val, w.val.cell? ⟨g14, 0, none⟩ = some (.int .i64 N) := fun w => p0 (v.up w)
      have r3 : ∀ w : Later v.val.heap.size v.val, w.val.cell? ⟨g14, 1, none⟩ = some (.slice ad L.length cp) := fun w => p1 (v.up w)
      have r4 : ∀ w : Later v.val.heap.size v.val, w.val.cell? ⟨W2.heap.size, 0, none⟩ = some (.int .i64 N') := fun w => (HT.out.keep w.below).c0
      have r5 : ∀ w : Later v.val.heap.size v.val, w.val.cell? ⟨W2.heap.size, 1, none⟩ = some (.slice ad' L'.length cp') := fun w => (HT.out.keep w.below).c1
      have HV5 : Hid (∀ w : Later v.val.heap.size v.val, ∃ w' : Later B W, w'.val = w.val) := Lib.hid (fun w => HV4.out (v.up w))
      clear p0 p1 q0' q1' HF3 HE3 HCc3 HIL2 HV4 HT HIL'
      generalize v.val = V at *
      clear v
      generalize W2.heap.size = g20 at *
      have K1 := Lib.hid (fun w : Later V.heap.size V => c_one w X e X e rfl HX0.out)
      have K2 := Lib.hid (fun w : Later V.heap.size V => c_one w Y e Y e rfl HY0.out)
      have K3 := Lib.hid (fun w : Later V.heap.size V => c_one w Z e Z e rfl HZ0.out)
      have K4 := Lib.hid (fun w : Later V.heap.size V => c_told w N N' L L' ad ad' cp cp' k k HIL4.out HIL5.out hLl.out rfl HTold.out)
      have K5 := Lib.hid (fun w : Later V.heap.size V => c_cuts w gn es c ae ac ce cc HE4.out HC4.out hle hlc)
      have hd : ∃ d, d = cutErr gn es c := ⟨_, rfl⟩
      obtain ⟨d, hd⟩ := hd
      have hL3 : ∃ L3, L3 = (if d = 0 then cutL gn es c else []) := ⟨_, rfl⟩
      obtain ⟨L3, hL3⟩ := hL3
      rw [← hd, ← hL3] at K5
      have HD := Lib.hid hd; have HL3 := Lib.hid hL3
      clear hd hL3
      obtain ⟨V0, hV0⟩ : ∃ V0 : Later V.heap.size V, V0.val = V := ⟨Later.self _, rfl⟩
      rw [← hV0]
      clear hV0
      go_upto_region 27 with (first | (go_at_call 24; ((with_reducible refine (K1.out _).mono ?_); rintro e _ ⟨rfl, v1, rfl⟩)) | (go_at_call 24; ((with_reducible refine (K2.out _).mono ?_); rintro e _ ⟨rfl, v1, rfl⟩)) | (go_at_call 24; ((with_reducible refine (K3.out _).mono ?_); rintro e _ ⟨rfl, v1, rfl⟩)) | (go_at_call 44; refine (K4.out _).mono ?_; rintro e _ ⟨rfl, v1, rfl⟩) | (go_at_call 62; refine (K5.out _).mono ?_; rintro e _ ⟨_, rfl, ⟨_, rfl, ⟨ad3, cp3, rfl, HI3, hcp3⟩⟩, v1, rfl⟩))
      have r0' : ∀ w : Later v1.val.heap.size v1.val, w.val.cell? ⟨g6, 0, none⟩ = some (.int .i64 gn) := fun w => r0 (v1.up w)
      have r1' : ∀ w : Later v1.val.heap.size v1.val, w.val.cell? ⟨g6, 1, none⟩ = some (.slice ae es.length ce) := fun w => r1 (v1.up w)
      have HI4 := Lib.hid HI3
      have HE5 := Lib.hid (HE4.out.to v1)
      have HC5 := Lib.hid (HC4.out.to v1)
      have HV6 : Hid (∀ w : Later v1.val.heap.size v1.val, ∃ w' : Later B W, w'.val = w.val) := Lib.hid (fun w => HV5.out (v1.up w))
      clear r0 r1 r2 r3 r4 r5 K1 K2 K3 K4 K5 HE4 HC4 HIL4 HIL5 HV5 HI3 hcp3 HX0 HY0 HZ0 HTold hLl hgm hrv
      generalize v1.val = V1 at *
      clear v1 V0
      have K6 := Lib.hid (fun w : Later V1.heap.size V1 => c_isGraph w gn es ae ce HE5.out hle)
      have K7 := Lib.hid (fun (w : Later V1.heap.size V1) ok e => c_bad w ok e)
      obtain ⟨v1, hv1⟩ : ∃ v1 : Later V1.heap.size V1, v1.val = V1 := ⟨Later.self _, rfl⟩
      have hw0 : ∀ ok e, errno ok e = if ok then 0 else e := fun ok e => rfl
      have HW0 := Lib.hid hw0
      clear hw0
      rw [← hv1]
      clear hv1
      go_upto_if 137 with (first | (go_at_call 39; refine (K6.out _).mono ?_; rintro e _ ⟨rfl, v2, rfl⟩) | (go_at_call 14; refine (K7.out _ _ _).mono ?_; rintro e _ ⟨rfl, v3, rfl⟩))
      go_cut [25] from 133 to 144 (fun o w => NumIn V1 (cutErr0 gn es c) o w)
      case first => as_aux_lemma =>
        clear HE5 HC5 HI4 HV6 HD HL3 r0'
        by_cases hG : isGraph gn es
        case neg =>
          have ho : errno (decide (isGraph gn es)) 1 = 1 := by simp [errno, hG]
          have HG := Lib.hid hG
          clear hG
          rw [ho]
          clear ho
          go_wp2
          go_meet
          case rel => exact ⟨⟨v3, rfl⟩, vint (by unfold cutErr0; rw [if_neg HG.out])⟩
        have ho : errno (decide (isGraph gn es)) 1 = 0 := by simp [errno, hG]
        have HG := Lib.hid hG
        clear hG
        rw [ho]
        clear ho
        have HB1 := Lib.hid (fun w => K7.out w true 3)
        have HB2 := Lib.hid (fun w => K7.out w false 3)
        rw [show errno true 3 = 0 from rfl] at HB1
        rw [show errno false 3 = 3 from rfl] at HB2
        clear K7
        rcases ieq (c.length : Int) (es.length : Int) with ⟨g, d1, d2⟩ | ⟨g, d1, d2⟩
        · have hx : Hid (c.length = es.length) := Lib.hid (by omega)
          clear g
          go_wp2_with (first | (go_at_call 14; refine (HB1.out _).mono ?_; rintro e _ ⟨rfl, v4, rfl⟩))
          go_meet
          case rel => exact ⟨⟨v4, rfl⟩, vint (by unfold cutErr0; rw [if_pos HG.out, if_pos hx.out])⟩
        · have hx : Hid (¬ c.length = es.length) := Lib.hid (by omega)
          clear g
          go_wp2_with (first | (go_at_call 14; refine (HB2.out _).mono ?_; rintro e _ ⟨rfl, v4, rfl⟩))
          go_meet
          case rel => exact ⟨⟨v4, rfl⟩, vint (by unfold cutErr0; rw [if_pos HG.out, if_neg hx.out])⟩
      case rest => as_aux_lemma =>
        obtain ⟨⟨v1, rfl⟩, rfl⟩ := hcut
        clear K6
        go_upto_if 146 with fail
        go_cut [25] from 145 to 160 (fun o w => NumIn V1 d o w)
        case first => as_aux_lemma =>
          have HD1 : Hid (d = if isGraph gn es then (if c.length = es.length then (if inHund c c.length then 0 else 1) else 3) else 1) := Lib.hid (by have := HD.out; unfold cutErr at this; exact this)
          clear HE5 HI4 HV6 HL3 r0' HD
          by_cases hG : isGraph gn es ∧ c.length = es.length
          case neg =>
            have HG := Lib.hid hG
            have hd1 : d = cutErr0 gn es c := by
              rw [HD1.out]; unfold cutErr0
              by_cases h1 : isGraph gn es
              · rw [if_pos h1, if_pos h1, if_neg (fun h => hG ⟨h1, h⟩), if_neg (fun h => hG ⟨h1, h⟩)]
              · rw [if_neg h1, if_neg h1]
            have hd2 : ¬ d = 0 := by
              rw [hd1]; unfold cutErr0
              by_cases h1 : isGraph gn es
              · rw [if_pos h1, if_neg (fun h => hG ⟨h1, h⟩)]; decide
              · rw [if_neg h1]; decide
            rw [← hd1]
            clear hG hd1
            go_wp2
            go_meet
            case rel => exact ⟨⟨v1, rfl⟩, rfl⟩
          have hc0 : cutErr0 gn es c = 0 := by unfold cutErr0; rw [if_pos hG.1, if_pos hG.2]
          have hd1 : d = if inHund c c.length then 0 else 1 := by rw [HD1.out, if_pos hG.1, if_pos hG.2]
          have HD2 := Lib.hid hd1
          rw [hc0]
          clear hc0 hG hd1 HD1
          by_cases h0 : 0 < c.length
          case neg =>
            have hcl : c = [] := List.length_eq_zero_iff.1 (by omega)
            subst hcl
            have hd0 : Hid (d = 0) := Lib.hid (by rw [HD2.out, if_pos (show inHund [] _ from fun i hi => by simp at hi)])
            go_wp2_with (first | (go_at_call 14; refine (K7.out _ _ _).mono ?_; rintro e _ ⟨rfl, v4, rfl⟩))
            go_meet
            case rel => exact ⟨⟨v4, rfl⟩, vint hd0.out.symm⟩
          have M1 := Lib.hid (fun w : Later V1.heap.size V1 => c_min w c ac cc HC5.out h0 hlc)
          have M2 := Lib.hid (fun w : Later V1.heap.size V1 => c_max w c ac cc HC5.out h0 hlc)
          have HDm : Hid (d = if 0 ≤ lmin c ∧ lmax c ≤ 100 then 0 else 1) := Lib.hid (by rw [HD2.out]; simp only [inHund_iff h0])
          clear HD2 HC5
          generalize lmin c = lo at *
          generalize lmax c = hi at *
          have z1 : ((c.length : Int) == 0) = false := by rw [beq_eq_false_iff_ne]; omega
          rcases ile 0 lo with ⟨g1, e1⟩ | ⟨g1, e1⟩ <;> rcases ile hi 100 with ⟨g2, e2⟩ | ⟨g2, e2⟩
          all_goals
            go_wp2_with (first | (go_at_call 14; refine (K7.out _ _ _).mono ?_; rintro e _ ⟨rfl, v4, rfl⟩) | (go_at_call 58; refine (M1.out _).mono ?_; rintro e _ ⟨rfl, v5, rfl⟩) | (go_at_call 63; refine (M2.out _).mono ?_; rintro e _ ⟨rfl, v6, rfl⟩))
            go_meet
            case rel => exact ⟨⟨v4, rfl⟩, vint (by rw [HDm.out]; first | (rw [if_pos (show 0 ≤ lo ∧ hi ≤ 100 from ⟨g1, g2⟩)]; rfl) | (rw [if_neg (show ¬ (0 ≤ lo ∧ hi ≤ 100) from fun h => by have := h.1; have := h.2; omega)]; rfl))⟩
        case rest => as_aux_lemma =>
          obtain ⟨⟨v1, rfl⟩, rfl⟩ := hcut
          clear K7 HW0
          rcases ieq d 0 with ⟨g, d1, d2⟩ | ⟨g, d1, d2⟩
          case inr =>
            have hL3 : L3 = [] := by rw [HL3.out, if_neg g]
            subst hL3
            have KL := Lib.hid (fun w : Later V1.heap.size V1 => c_list w [] [] ad3 none cp3 0 d d HI4.out IntsAt.nil (by simp) rfl (by rw [if_neg g]))
            clear HL3 HI4 HE5 HC5 HD r0' r1' g
            go_wp2
            go_loopw [26, 27] (fun o i wr => o = .slice none 0 0 ∧ i = .int .i64 0 ∧ ∃ w : Later V1.heap.size V1, w.val = wr) (fun _ _ _ => 0)
            case atStart => exact ⟨rfl, rfl, v1, rfl⟩
            case round =>
              clear v1
              obtain ⟨rfl, rfl, v1, rfl⟩ := hrel
              go_wp2_with (first | (go_at_call 45; refine (KL.out _).mono ?_; rintro e _ ⟨rfl, v5, rfl⟩))
              go_ret
              exact Ret.of (HV6.out v5) rfl
          subst g
          obtain ⟨hG, hlc2, hH⟩ : isGraph gn es ∧ c.length = es.length ∧ inHund c c.length := by
            have := HD.out
            unfold cutErr at this
            split at this
            · split at this
              · split at this
                · exact ⟨by assumption, by assumption, by assumption⟩
                · omega
              · omega
            · omega
          have hes : es.length ≤ 8 := hG.2.2.1
          have hcl : c.length ≤ 8 := by omega
          obtain ⟨m, rfl⟩ := Int.eq_ofNat_of_zero_le (show 0 ≤ gn by have := hG.1; omega)
          have hm : m ≤ 7 := by have := hG.2.1; omega
          have hb := bit_le m (by omega)
          have hL3 : L3 = tabL (bit m) (fun j => cutS es c j c.length) := by rw [HL3.out, if_pos rfl]; rfl
          have KA : Hid (∀ (B : Nat) (W : World) (w : Later B W), Calls Try.prog 59 #[.int .i64 m] w.val (Ret B W (.int .i64 ((bit m : Int) - 1)))) := Lib.hid (fun B W w => by
            have := c_all w (m : Int) (by omega) (by omega)
            rwa [all_nat, show ((bit m - 1 : Nat) : Int) = (bit m : Int) - 1 by omega] at this)
          have HG := Lib.hid hG; have HH := Lib.hid hH; have HLc := Lib.hid hlc2; have HL3e := Lib.hid hL3
          obtain ⟨A, hA⟩ : ∃ A : Nat → Int, A = (fun j => cutS es c j c.length) := ⟨_, rfl⟩
          rw [← hA] at HL3e
          have HA : Hid (∀ j, A j = cutS es c j c.length) := Lib.hid (fun j => by rw [hA])
          clear HL3 HD hG hlc2 hH hL3 d2 hA
          go_wp2
          go_loopw [26, 27] (fun o i wr => ∃ (s : Nat) (ad : Option Addr) (cp : Nat) (v : Later V1.heap.size V1), s ≤ bit m ∧ i = .int .i64 s ∧ o = .slice ad (tabL s A).length cp ∧ wr = v.val ∧ Hid (Own V1.heap.size v.val ad cp (tabL s A))) (fun _ i _ => bit m - (intOf i).toNat)
          case atStart => exact ⟨0, none, 0, v1, by omega, rfl, rfl, rfl, Own.nil _ _⟩
          case round =>
            clear v1
            obtain ⟨s, ad, cp, v1, hs, rfl, rfl, rfl, HO⟩ := hrel
            have KA1 := Lib.hid (KA.out _ _ (Later.self v1.val))
            rcases ile (s : Int) ((bit m : Int) - 1) with ⟨hlt, e0⟩ | ⟨hlt, e0⟩
            case inr =>
              have hse : Hid (s = bit m) := Lib.hid (by omega)
              have KL2 := Lib.hid (fun w : Later v1.val.heap.size v1.val => c_list w L3 (tabL s A) ad3 ad cp3 cp 0 0 (HI4.out.to v1) HO.out.reads (by rw [HL3e.out, tabL_len]; omega) rfl (by rw [if_pos rfl, HL3e.out, hse.out]))
              clear HO
              go_wp2_with (first | (go_at_call 59; refine (KA1.out).mono ?_; rintro e _ ⟨rfl, v5, rfl⟩) | (go_at_call 45; refine (KL2.out _).mono ?_; rintro e _ ⟨rfl, v6, rfl⟩))
              go_ret
              exact Ret.of (HV6.out (v1.up v6)) rfl
            have hsb : s < bit m := by omega
            have HEb := Lib.hid (HE5.out.to v1)
            have HCb := Lib.hid (HC5.out.to v1)
            have q0 : ∀ w : Later v1.val.heap.size v1.val, w.val.cell? ⟨g6, 1, none⟩ = some (.slice ae es.length ce) := fun w => r1' (v1.up w)
            have hLs : Hid (A s = cutS es c s c.length) := Lib.hid (HA.out s)
            go_wp2_with (first | (go_at_call 59; refine (KA1.out).mono ?_; rintro e _ ⟨rfl, v5, rfl⟩))
            go_loopw [28, 174] (fun o i wr => ∃ (q : Nat) (v : Later v1.val.heap.size v1.val), q ≤ c.length ∧ i = .int .i64 q ∧ o = .int .i64 (cutS es c s q) ∧ wr = v.val) (fun _ i _ => c.length - (intOf i).toNat)
            case atStart => exact ⟨0, v5, by omega, rfl, rfl, rfl⟩
            case round =>
              clear v5
              obtain ⟨q, v, hq, rfl, rfl, rfl⟩ := hrel
              by_cases hlt2 : q < c.length
              · have hqe : q < es.length := by have := HLc.out; omega
                obtain ⟨be, offe, rfl, hbe, hce⟩ := HEb.out.at hqe
                have e1 := (hce v q hqe).1
                have e2 := (hce v q hqe).2
                obtain ⟨bb, off, rfl, hbB, hcell⟩ := HCb.out.at hlt2
                have HX := HG.out.2.2.2 q hqe
                obtain ⟨x, hx⟩ := Int.eq_ofNat_of_zero_le HX.1
                obtain ⟨y, hy⟩ := Int.eq_ofNat_of_zero_le HX.2.1
                have HSt : Hid (cutS es c s (q+1) = if s.testBit x = true ∧ s.testBit y = false then cutS es c s q + c.getD q 0 else cutS es c s q) := Lib.hid (by show (if _ then _ else _) = _; rw [hx, hy]; rfl)
                rw [hx, hy] at HX
                rw [hx] at e1
                rw [hy] at e2
                have hx7 : x < 7 := by omega
                have hy7 : y < 7 := by omega
                have hbd := cutS_bound HH.out (es := es) s (k := q) (by omega)
                have hbd2 := HH.out q hlt2
                have c0 : ∀ w : Later v1.val.heap.size v1.val, w.val.cell? ⟨bb, off + q, none⟩ = some (.int .i64 (c.getD q 0)) := fun w => hcell w q hlt2
                have KX : Hid (∀ o : Obj, Calls Try.prog 21 #[.int .i64 s, .int .i64 x] (v.val.alloc o) (Ret v1.val.heap.size v1.val (.bool (s.testBit x)))) := Lib.hid (fun o => c_in (v.alloc o) s x (by omega) (by omega))
                have KY := Lib.hid (fun w : Later (v.val.alloc (.cells #[.int .i64 x, .int .i64 y] 63)).heap.size (v.val.alloc (.cells #[.int .i64 x, .int .i64 y] 63)) => c_in w s y (by omega) (by omega))
                have HT2 : Hid (Two (v.val.alloc (.cells #[.int .i64 x, .int .i64 y] 63)) v.val.heap.size 63 (.int .i64 x) (.int .i64 y)) := Lib.hid (Two.new _ _ _ _)
                have c1 : ∀ w : Later (v.val.alloc (.cells #[.int .i64 x, .int .i64 y] 63)).heap.size (v.val.alloc (.cells #[.int .i64 x, .int .i64 y] 63)), w.val.cell? ⟨v.val.heap.size, 1, none⟩ = some (.int .i64 y) := fun w => (HT2.out.keep w.below).c1
                have KX2 : Hid (Calls Try.prog 21 #[.int .i64 s, .int .i64 x] (v.val.alloc (.cells #[.int .i64 x, .int .i64 y] 63)) (Ret (v.val.alloc (.cells #[.int .i64 x, .int .i64 y] 63)).heap.size (v.val.alloc (.cells #[.int .i64 x, .int .i64 y] 63)) (.bool (s.testBit x)))) := Lib.hid (c_in (Later.self _) s x (by omega) (by omega))
                have HVU : Hid (∀ w : Later (v.val.alloc (.cells #[.int .i64 x, .int .i64 y] 63)).heap.size (v.val.alloc (.cells #[.int .i64 x, .int .i64 y] 63)), ∃ w' : Later v1.val.heap.size v1.val, w'.val = w.val) := Lib.hid (fun w => ⟨(v.alloc _).up w, rfl⟩)
                have c2 : ∀ w : Later (v.val.alloc (.cells #[.int .i64 x, .int .i64 y] 63)).heap.size (v.val.alloc (.cells #[.int .i64 x, .int .i64 y] 63)), w.val.cell? ⟨bb, off + q, none⟩ = some (.int .i64 (c.getD q 0)) := fun w => by
                  obtain ⟨w', hw'⟩ := HVU.out w
                  rw [← hw']; exact c0 w'
                clear HX hx hy hce hcell KX c0
                generalize hp : cutS es c s q = p at *
                generalize c.getD q 0 = d at *
                have HP := Lib.hid hp; clear hp
                rcases btf (s.testBit x) with g1 | g1 <;> rcases btf (s.testBit y) with g2 | g2
                all_goals
                  rw [g1] at KX2
                  rw [g2] at KY
                  rw [g1, g2] at HSt
                  clear g1 g2
                  go_wp2_with (first | (go_at_call 21; ((with_reducible refine (KX2.out).mono ?_); rintro e _ ⟨rfl, v6, rfl⟩)) | (go_at_call 21; refine (KY.out _).mono ?_; rintro e _ ⟨rfl, v7, rfl⟩))
                  go_roundw
                  case rel =>
                    first
                    | (obtain ⟨v8, hv8⟩ := HVU.out v7
                       exact ⟨q+1, v8, by omega, by go_num, vint (by rw [HSt.out]; rfl), hv8.symm⟩)
                    | (obtain ⟨v8, hv8⟩ := HVU.out v6
                       exact ⟨q+1, v8, by omega, by go_num, vint (by rw [HSt.out]; rfl), hv8.symm⟩)
                  case measure => simp [intOf]; omega
              · have hqe : Hid (q = c.length) := Lib.hid (by omega)
                have hval : Hid (cutS es c s q = A s) := Lib.hid (by rw [hqe.out, hLs.out])
                have HTs := Lib.hid (tabL_snoc s A)
                have hll := tabL_len s A
                have HLL : Hid ((tabL s A).length ≤ 256) := Lib.hid (by omega)
                clear hll
                rw [hval.out]
                go_wp2_with (at_builtin; refine wpList_push (B := V1.heap.size) (W := V1) (w := v.val) (v1.up v).below (v1.up v).size rfl _ _ rfl (tabL s A) ad cp (A s) rfl (HO.out.keep v.below) rfl (by have := HLL.out; omega) ?_; intro u2 ad2 cp2 hown)
                go_roundw
                case rel =>
                  refine ⟨s+1, ad2, cp2, u2, by omega, by go_num, ?_, rfl, ?_⟩
                  · rw [HTs.out]; simp
                  · rw [HTs.out]; exact hown
                case measure => simp [intOf]; omega

end Go.Proofs.Ytcljgnmlpfddiaa
