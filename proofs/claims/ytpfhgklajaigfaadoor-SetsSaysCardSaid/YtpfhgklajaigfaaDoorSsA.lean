
/-
  sets.Read, rotaref.OfText.
-/
import Derived.Test.YtpfhgklajaigfaaDoorSsPl
import Derived.Test.YtpfhgklajaigfaaDoorRowL
import Derived.Laws.Strings
import Derived.Laws.Concat
import Derived.Deep.CutRange
namespace Go.Proofs.YtpfhgklajaigfaaDoor
open Go.RowKit
set_option linter.unusedVariables false

theorem results_tmp_cell {fn : Func} {p x : Tmp} {ty : TypeId} (h : fn.results = #[.tmp x, .cell p ty]) {P : Program} (tmps : Array Value) (w : World) (g : Nat) {t : TypeId} {vs : List Value} {fs : Array Field}
    (hp : tmps.getD p undef = .pointer (some ⟨g, 0, none⟩)) (hT : RowL w g t vs)
    (hu : P.underlying ty = some (.struct fs)) (hi : (P.info? ty).map (·.size) = some vs.length) :
    (results fn tmps).run P w = .ok (.tuple #[tmps.getD x undef, .agg vs.toArray]) w := by
  have hl := run_loadVar_row (P := P) w g t ty vs.toArray (0, 0) _ hT hu rfl (by simpa using hi)
  have e : (results fn tmps).run P w = ((asAddr (tmps.getD p undef)).run P w).andThen fun a w₁ => ((loadVar ty a).run P w₁).andThen fun v w₂ => .ok (.tuple #[tmps.getD x undef, v]) w₂ := by
    simp only [results, h]
    simp [Sem.run_bind, Result.andThen]
  rw [e, hp]
  simp [asAddr, Result.andThen, hl]

/-- a set that is read, and a fault -/
def rdV (r : Nat × Int × Nat) : Value := .tuple #[.int .i64 (r.1 : Nat), .agg #[.int .i64 r.2.1, .int .i64 (r.2.2 : Nat)]]

set_option maxRecDepth 100000 in
set_option maxHeartbeats 8000000 in
theorem c_read {B : Nat} {W : World} (u : Later B W) (s : ByteArray) (hlen : s.size ≤ 9223372036854775807) :
    Calls Tryd.prog 11 #[.string s] u.val (Ret B W (rdV (rdT (byL s) 0 (-1) 0))) := by
  have hB := u.size
  have HX : Hid (RowL (u.val.alloc (.cells #[.int .i64 0, .int .i64 0] 33)) u.val.heap.size 33 [.int .i64 0, .int .i64 0]) := Lib.hid (RowL.new _ _ _)
  have hg : u.val.heap.size < (u.val.alloc (.cells #[.int .i64 0, .int .i64 0] 33)).heap.size := by simp
  have HVY : Hid (∀ v : Later (u.val.alloc (.cells #[.int .i64 0, .int .i64 0] 33)).heap.size (u.val.alloc (.cells #[.int .i64 0, .int .i64 0] 33)), ∃ w : Later B W, w.val = v.val) := Lib.hid (fun v => ⟨(u.alloc _).up v, rfl⟩)
  have HR : Hid (rdT ((byL s).drop 0) 0 (-1) 0 = rdT (byL s) 0 (-1) 0) := Lib.hid rfl
  obtain ⟨R, hR⟩ : ∃ R, R = rdT (byL s) 0 (-1) 0 := ⟨_, rfl⟩
  rw [← hR] at HR ⊢
  clear hR
  have hsl := byL_len s
  go_enter Tryd.func11, Tryd.ntmps11
  go_upto_region 1 with fail
  generalize (u.val.alloc (.cells #[.int .i64 0, .int .i64 0] 33)) = Y at *
  generalize u.val.heap.size = gu at *
  have f0 : ∀ (w : Later Y.heap.size Y), w.val.cell? ⟨gu, 0, none⟩ = some (.int .i64 0) := fun w => (HX.out.keep_at w.below hg).cell rfl
  have z0 : ∀ (w : Later Y.heap.size Y), w.val.frozen? ⟨gu, 0, none⟩ = false := fun w => (HX.out.keep_at w.below hg).fz 0
  have f1 : ∀ (w : Later Y.heap.size Y) (x0 : Value), (w.val.setCell ⟨gu, 0, none⟩ x0).cell? ⟨gu, 1, none⟩ = some (.int .i64 0) := fun w x0 => ((HX.out.keep_at w.below hg).set 0 x0).cell rfl
  have z1 : ∀ (w : Later Y.heap.size Y) (x0 : Value), (w.val.setCell ⟨gu, 0, none⟩ x0).frozen? ⟨gu, 1, none⟩ = false := fun w x0 => ((HX.out.keep_at w.below hg).set 0 x0).fz 1
  have hfin : ∀ (v : Later Y.heap.size Y) (sv : Nat) (code : Int) (at_ : Nat) (tm : Array Value), R = (sv, code, at_) → tm.getD 2 undef = .int .i64 (sv : Nat) → tm.getD 3 undef = .pointer (some ⟨gu, 0, none⟩) → bodyPost Tryd.prog Tryd.f11 (Ret B W (rdV R)) .ret { tmps := tm, defers := [] } ((v.val.setCell ⟨gu, 0, none⟩ (.int .i64 code)).setCell ⟨gu, 1, none⟩ (.int .i64 (at_ : Nat))) := fun v sv code at_ tm hr h2 h3 => by
    refine bodyPost_ret (results_tmp_cell (vs := [.int .i64 code, .int .i64 (at_ : Nat)]) rfl _ _ gu h3 (((HX.out.keep v.below).set 0 _).set 1 _) Tryd.underlying33 (by kernel_rfl)) rfl ?_
    obtain ⟨x1, hx1⟩ := later_set (HVY.out v) (g := gu) (i := 0) hB (.int .i64 code)
    obtain ⟨x2, hx2⟩ := later_set ⟨x1, hx1⟩ (g := gu) (i := 1) hB (.int .i64 (at_ : Nat))
    exact Ret.of ⟨x2, hx2⟩ (by rw [h2, hr]; rfl)
  have HF := Lib.hid hfin
  clear hfin HX HVY
  obtain ⟨z, hz⟩ : ∃ z : Later Y.heap.size Y, z.val = Y := ⟨Later.self _, rfl⟩
  rw [← hz]
  clear hz
  go_wp2
  go_loopw [4, 5, 6] (fun sv lv iv wr => ∃ (k : Nat) (last : Int) (t : Nat) (v : Later Y.heap.size Y), k ≤ s.size ∧ sv = .int .i64 (t : Nat) ∧ lv = .int .i64 last ∧ iv = .int .i64 (k : Nat) ∧ wr = v.val ∧ t < 256 ∧ -1 ≤ last ∧ last < 8 ∧ Hid (rdT ((byL s).drop k) k last t = R)) (fun _ _ i _ => s.size - (intOf i).toNat)
  case atStart => exact ⟨0, -1, 0, z, by omega, rfl, rfl, rfl, rfl, by omega, by omega, by omega, HR⟩
  case round =>
    clear z HR
    obtain ⟨k, last, t, v, hk, rfl, rfl, rfl, rfl, ht, hl1, hl2, hr⟩ := hrel
    by_cases hlt : k < s.size
    · have hx := byL_at hlt
      have hc := byL_lt s k
      have hkl : k < (byL s).length := by rw [hsl]; exact hlt
      have hm1 : Hid (k + 1 ≤ s.size) := Lib.hid hlt
      by_cases hodd : k % 2 = 1
      · have hm : Int.tmod (k : Int) 2 = 1 := by rw [Int.tmod_eq_emod_of_nonneg (by omega)]; omega
        have hrr := hr.out
        rw [rdT_odd hkl hodd] at hrr
        have HS := Lib.hid hrr
        clear hr hrr hodd hkl
        generalize (byL s).getD k 0 = c at *
        rcases ieq (c : Int) 32 with ⟨h1, d1, e1⟩ | ⟨h1, d1, e1⟩
        · rcases ieq last 7 with ⟨h2, d2, e2⟩ | ⟨h2, d2, e2⟩
          · have HN : Hid (R = (0, 4, k)) := Lib.hid (by have := HS.out; rw [if_neg (fun h => h.2 h2)] at this; exact this.symm)
            have H12 := Lib.hid (And.intro h1 h2)
            clear HS h1 h2
            go_wp2
            exact HF.out v 0 4 k _ HN.out rfl rfl
          · have HN : Hid (rdT ((byL s).drop (k + 1)) (k + 1) last t = R) := Lib.hid (by have := HS.out; rw [if_pos ⟨by omega, h2⟩] at this; exact this)
            have H12 := Lib.hid (And.intro h1 h2)
            clear HS h1 h2
            go_wp2
            go_roundw
            case rel => exact ⟨k+1, last, t, v, hm1.out, rfl, rfl, by go_num, rfl, ht, hl1, hl2, HN⟩
            case measure => have := hm1.out; simp [intOf]; omega
        · have HN : Hid (R = (0, 4, k)) := Lib.hid (by have := HS.out; rw [if_neg (fun h => h1 (by omega))] at this; exact this.symm)
          have H12 := Lib.hid h1
          clear HS h1
          go_wp2
          exact HF.out v 0 4 k _ HN.out rfl rfl
      · have hm : Int.tmod (k : Int) 2 = 0 := by rw [Int.tmod_eq_emod_of_nonneg (by omega)]; omega
        have hrr := hr.out
        rw [rdT_even hkl hodd] at hrr
        have HS := Lib.hid hrr
        clear hr hrr hodd hkl
        generalize (byL s).getD k 0 = c at *
        have wc := IntWalk.i64_in (c : Int) (by omega)
        have wd := IntWalk.i64_in ((c : Int) - 48) (by omega)
        rcases ile ((c : Int) - 48) last with ⟨h1, d1⟩ | ⟨h1, d1⟩
        · have HN : Hid (R = (0, 4, k)) := Lib.hid (by have := HS.out; rw [if_neg (fun h => by omega)] at this; exact this.symm)
          have H12 := Lib.hid h1
          clear HS h1
          go_wp2
          exact HF.out v 0 4 k _ HN.out rfl rfl
        · rcases ile 8 ((c : Int) - 48) with ⟨h2, d2⟩ | ⟨h2, d2⟩
          · have HN : Hid (R = (0, 4, k)) := Lib.hid (by have := HS.out; rw [if_neg (fun h => by omega)] at this; exact this.symm)
            have H12 := Lib.hid (And.intro h1 h2)
            clear HS h1 h2
            go_wp2
            exact HF.out v 0 4 k _ HN.out rfl rfl
          · obtain ⟨d, hd⟩ : ∃ d : Nat, c = d + 48 := ⟨c - 48, by omega⟩
            subst hd
            have hcd : ((d + 48 : Nat) : Int) - 48 = (d : Int) := by omega
            have HN : Hid (rdT ((byL s).drop (k + 1)) (k + 1) (d : Int) (t ||| bit d) = R) := Lib.hid (by
              have := HS.out
              rw [if_pos ⟨by omega, by omega⟩, hcd, show d + 48 - 48 = d by omega] at this
              exact this)
            have hd8 : d < 8 := by omega
            rw [hcd] at wd d1 d2
            have bc := bit_cast d
            have bd := bit_lt d hd8
            have wb := IntWalk.i64_in (bit d : Int) (by omega)
            have o1 := i64_or t (bit d) (by omega) (by omega)
            have hor : t ||| bit d < 256 := Nat.or_lt_two_pow (n := 8) ht (by show bit d < 256; omega)
            obtain ⟨cc, hcc⟩ : ∃ cc : Int, cc = ((d + 48 : Nat) : Int) := ⟨_, rfl⟩
            rw [← hcc] at wc hcd
            have hx' : (((s[k]'hlt).toNat : Nat) : Int) = cc := by rw [hx, hcc]
            clear HS h1 h2 hx hcc
            generalize t ||| bit d = tt at *
            go_wp2
            go_roundw
            case rel => exact ⟨k+1, (d : Int), tt, v, hm1.out, rfl, rfl, by go_num, rfl, hor, by omega, by omega, HN⟩
            case measure => have := hm1.out; simp [intOf]; omega
    · have hke : k = s.size := by omega
      subst hke
      have hrr := hr.out
      rw [show (byL s).drop s.size = [] from by rw [← hsl]; exact List.drop_length, rdT_end] at hrr
      have HS := Lib.hid hrr
      clear hr hrr
      by_cases h0 : s.size = 0
      · have HN : Hid (R = (t, 0, 0)) := Lib.hid (by have := HS.out; rw [if_neg (fun h => by omega)] at this; exact this.symm)
        clear HS hlt
        go_wp2
        exact HF.out v t 0 0 _ HN.out rfl rfl
      · have d0 : decide ((0 : Int) < (s.size : Int)) = true := by simp; omega
        have d0n : decide (0 < s.size) = true := by simp; omega
        by_cases hev : s.size % 2 = 0
        · have hm : Int.tmod (s.size : Int) 2 = 0 := by rw [Int.tmod_eq_emod_of_nonneg (by omega)]; omega
          have HN : Hid (R = (0, 4, s.size)) := Lib.hid (by have := HS.out; rw [if_pos ⟨by omega, hev⟩] at this; exact this.symm)
          have H0 := Lib.hid h0
          clear HS hlt hev h0
          go_wp2
          exact HF.out v 0 4 s.size _ HN.out rfl rfl
        · have hm : Int.tmod (s.size : Int) 2 = 1 := by rw [Int.tmod_eq_emod_of_nonneg (by omega)]; omega
          have HN : Hid (R = (t, 0, 0)) := Lib.hid (by have := HS.out; rw [if_neg (fun h => hev h.2)] at this; exact this.symm)
          have H0 := Lib.hid h0
          clear HS hlt hev h0
          go_wp2
          exact HF.out v t 0 0 _ HN.out rfl rfl

set_option maxRecDepth 100000 in
set_option maxHeartbeats 8000000 in
theorem c_ofText {B : Nat} {W : World} (u : Later B W) (s : ByteArray) (hlen : s.size ≤ 9223372036854775807) :
    Calls Tryd.prog 12 #[.string s] u.val (Ret B W (rdV (rdT (byL s) 0 (-1) 0))) := by
  have hB := u.size
  have HX : Hid (RowL (u.val.alloc (.cells #[.int .i64 0, .int .i64 0] 33)) u.val.heap.size 33 [.int .i64 0, .int .i64 0]) := Lib.hid (RowL.new _ _ _)
  have hg : u.val.heap.size < (u.val.alloc (.cells #[.int .i64 0, .int .i64 0] 33)).heap.size := by simp
  have HVY : Hid (∀ v : Later (u.val.alloc (.cells #[.int .i64 0, .int .i64 0] 33)).heap.size (u.val.alloc (.cells #[.int .i64 0, .int .i64 0] 33)), ∃ w : Later B W, w.val = v.val) := Lib.hid (fun v => ⟨(u.alloc _).up v, rfl⟩)
  have HR : Hid (rdT ((byL s).drop 0) 0 (-1) 0 = rdT (byL s) 0 (-1) 0) := Lib.hid rfl
  obtain ⟨R, hR⟩ : ∃ R, R = rdT (byL s) 0 (-1) 0 := ⟨_, rfl⟩
  rw [← hR] at HR ⊢
  clear hR
  have hsl := byL_len s
  go_enter Tryd.func12, Tryd.ntmps12
  go_upto_region 1 with fail
  generalize (u.val.alloc (.cells #[.int .i64 0, .int .i64 0] 33)) = Y at *
  generalize u.val.heap.size = gu at *
  have f0 : ∀ (w : Later Y.heap.size Y), w.val.cell? ⟨gu, 0, none⟩ = some (.int .i64 0) := fun w => (HX.out.keep_at w.below hg).cell rfl
  have z0 : ∀ (w : Later Y.heap.size Y), w.val.frozen? ⟨gu, 0, none⟩ = false := fun w => (HX.out.keep_at w.below hg).fz 0
  have f1 : ∀ (w : Later Y.heap.size Y) (x0 : Value), (w.val.setCell ⟨gu, 0, none⟩ x0).cell? ⟨gu, 1, none⟩ = some (.int .i64 0) := fun w x0 => ((HX.out.keep_at w.below hg).set 0 x0).cell rfl
  have z1 : ∀ (w : Later Y.heap.size Y) (x0 : Value), (w.val.setCell ⟨gu, 0, none⟩ x0).frozen? ⟨gu, 1, none⟩ = false := fun w x0 => ((HX.out.keep_at w.below hg).set 0 x0).fz 1
  have hfin : ∀ (v : Later Y.heap.size Y) (sv : Nat) (code : Int) (at_ : Nat) (tm : Array Value), R = (sv, code, at_) → tm.getD 2 undef = .int .i64 (sv : Nat) → tm.getD 3 undef = .pointer (some ⟨gu, 0, none⟩) → bodyPost Tryd.prog Tryd.f12 (Ret B W (rdV R)) .ret { tmps := tm, defers := [] } ((v.val.setCell ⟨gu, 0, none⟩ (.int .i64 code)).setCell ⟨gu, 1, none⟩ (.int .i64 (at_ : Nat))) := fun v sv code at_ tm hr h2 h3 => by
    refine bodyPost_ret (results_tmp_cell (vs := [.int .i64 code, .int .i64 (at_ : Nat)]) rfl _ _ gu h3 (((HX.out.keep v.below).set 0 _).set 1 _) Tryd.underlying33 (by kernel_rfl)) rfl ?_
    obtain ⟨x1, hx1⟩ := later_set (HVY.out v) (g := gu) (i := 0) hB (.int .i64 code)
    obtain ⟨x2, hx2⟩ := later_set ⟨x1, hx1⟩ (g := gu) (i := 1) hB (.int .i64 (at_ : Nat))
    exact Ret.of ⟨x2, hx2⟩ (by rw [h2, hr]; rfl)
  have HF := Lib.hid hfin
  clear hfin HX HVY
  obtain ⟨z, hz⟩ : ∃ z : Later Y.heap.size Y, z.val = Y := ⟨Later.self _, rfl⟩
  rw [← hz]
  clear hz
  go_wp2
  go_loopw [4, 5, 6, 7] (fun sv lv stv iv wr => ∃ (k st : Nat) (last : Int) (t : Nat) (v : Later Y.heap.size Y), k ≤ s.size ∧ sv = .int .i64 (t : Nat) ∧ lv = .int .i64 last ∧ stv = .int .i64 (st : Nat) ∧ iv = .int .i64 (k : Nat) ∧ wr = v.val ∧ st = k % 2 ∧ t < 256 ∧ -1 ≤ last ∧ last < 8 ∧ Hid (rdT ((byL s).drop k) k last t = R)) (fun _ _ _ i _ => s.size - (intOf i).toNat)
  case atStart => exact ⟨0, 0, -1, 0, z, by omega, rfl, rfl, rfl, rfl, rfl, rfl, by omega, by omega, by omega, HR⟩
  case round =>
    clear z HR
    obtain ⟨k, st, last, t, v, hk, rfl, rfl, rfl, rfl, rfl, hst, ht, hl1, hl2, hr⟩ := hrel
    by_cases hlt : k < s.size
    · have hx := byL_at hlt
      have hc := byL_lt s k
      have hkl : k < (byL s).length := by rw [hsl]; exact hlt
      have hm1 : Hid (k + 1 ≤ s.size) := Lib.hid hlt
      by_cases hodd : k % 2 = 1
      · have hs1 : st = 1 := by omega
        subst hs1
        have hst' : Hid (0 = (k + 1) % 2) := Lib.hid (by omega)
        have hrr := hr.out
        rw [rdT_odd hkl hodd] at hrr
        have HS := Lib.hid hrr
        clear hr hrr hodd hkl hst
        generalize (byL s).getD k 0 = c at *
        have wc := IntWalk.i64_in (c : Int) (by omega)
        rcases ieq (c : Int) 32 with ⟨h1, d1, e1⟩ | ⟨h1, d1, e1⟩
        · rcases ilt last 7 with ⟨h2, d2⟩ | ⟨h2, d2⟩
          · have HN : Hid (rdT ((byL s).drop (k + 1)) (k + 1) last t = R) := Lib.hid (by have := HS.out; rw [if_pos ⟨by omega, by omega⟩] at this; exact this)
            have H12 := Lib.hid (And.intro h1 h2)
            clear HS h1 h2
            go_wp2
            go_roundw
            case rel => exact ⟨k+1, 0, last, t, v, hm1.out, rfl, rfl, rfl, by go_num, rfl, hst'.out, ht, hl1, hl2, HN⟩
            case measure => have := hm1.out; simp [intOf]; omega
          · have HN : Hid (R = (0, 4, k)) := Lib.hid (by have := HS.out; rw [if_neg (fun h => h.2 (by omega))] at this; exact this.symm)
            have H12 := Lib.hid (And.intro h1 h2)
            clear HS h1 h2
            go_wp2
            exact HF.out v 0 4 k _ HN.out rfl rfl
        · have HN : Hid (R = (0, 4, k)) := Lib.hid (by have := HS.out; rw [if_neg (fun h => h1 (by omega))] at this; exact this.symm)
          have H12 := Lib.hid h1
          clear HS h1
          go_wp2
          exact HF.out v 0 4 k _ HN.out rfl rfl
      · have hs0 : st = 0 := by omega
        subst hs0
        have hst' : Hid (1 = (k + 1) % 2) := Lib.hid (by omega)
        have hrr := hr.out
        rw [rdT_even hkl hodd] at hrr
        have HS := Lib.hid hrr
        clear hr hrr hodd hkl hst
        generalize (byL s).getD k 0 = c at *
        have wc := IntWalk.i64_in (c : Int) (by omega)
        have wd := IntWalk.i64_in ((c : Int) - 48) (by omega)
        rcases ile 48 (c : Int) with ⟨h0, d0⟩ | ⟨h0, d0⟩
        · rcases ilt (c : Int) 56 with ⟨h2, d2⟩ | ⟨h2, d2⟩
          · rcases ilt last ((c : Int) - 48) with ⟨h1, d1⟩ | ⟨h1, d1⟩
            · obtain ⟨d, hd⟩ : ∃ d : Nat, c = d + 48 := ⟨c - 48, by omega⟩
              subst hd
              have hcd : ((d + 48 : Nat) : Int) - 48 = (d : Int) := by omega
              have HN : Hid (rdT ((byL s).drop (k + 1)) (k + 1) (d : Int) (t ||| bit d) = R) := Lib.hid (by
                have := HS.out
                rw [if_pos ⟨by omega, by omega⟩, hcd, show d + 48 - 48 = d by omega] at this
                exact this)
              have hd8 : d < 8 := by omega
              rw [hcd] at wd d1
              have bc := bit_cast d
              have bd := bit_lt d hd8
              have wb := IntWalk.i64_in (bit d : Int) (by omega)
              have o1 := i64_or t (bit d) (by omega) (by omega)
              have hor : t ||| bit d < 256 := Nat.or_lt_two_pow (n := 8) ht (by show bit d < 256; omega)
              obtain ⟨cc, hcc⟩ : ∃ cc : Int, cc = ((d + 48 : Nat) : Int) := ⟨_, rfl⟩
              rw [← hcc] at wc hcd d0 d2
              have hx' : (((s[k]'hlt).toNat : Nat) : Int) = cc := by rw [hx, hcc]
              clear HS h0 h1 h2 hx hcc
              generalize t ||| bit d = tt at *
              go_wp2
              go_roundw
              case rel => exact ⟨k+1, 1, (d : Int), tt, v, hm1.out, rfl, rfl, rfl, by go_num, rfl, hst'.out, hor, by omega, by omega, HN⟩
              case measure => have := hm1.out; simp [intOf]; omega
            · have HN : Hid (R = (0, 4, k)) := Lib.hid (by have := HS.out; rw [if_neg (fun h => by omega)] at this; exact this.symm)
              have H12 := Lib.hid (And.intro h1 (And.intro h0 h2))
              clear HS h1 h0 h2
              go_wp2
              exact HF.out v 0 4 k _ HN.out rfl rfl
          · have HN : Hid (R = (0, 4, k)) := Lib.hid (by have := HS.out; rw [if_neg (fun h => by omega)] at this; exact this.symm)
            have H12 := Lib.hid (And.intro h0 h2)
            clear HS h0 h2
            go_wp2
            exact HF.out v 0 4 k _ HN.out rfl rfl
        · have HN : Hid (R = (0, 4, k)) := Lib.hid (by have := HS.out; rw [if_neg (fun h => by omega)] at this; exact this.symm)
          have H12 := Lib.hid h0
          clear HS h0
          go_wp2
          exact HF.out v 0 4 k _ HN.out rfl rfl
    · have hke : k = s.size := by omega
      subst hke
      have hrr := hr.out
      rw [show (byL s).drop s.size = [] from by rw [← hsl]; exact List.drop_length, rdT_end] at hrr
      have HS := Lib.hid hrr
      clear hr hrr
      by_cases hev : s.size % 2 = 0
      · have hs0 : st = 0 := by omega
        subst hs0
        clear hst
        by_cases h0 : s.size = 0
        · have HN : Hid (R = (t, 0, 0)) := Lib.hid (by have := HS.out; rw [if_neg (fun h => by omega)] at this; exact this.symm)
          have he : s = ⟨#[]⟩ := by
            obtain ⟨d⟩ := s
            have : d.size = 0 := h0
            rw [Array.size_eq_zero_iff.1 this]
          subst he
          clear HS hlt hev
          go_wp2
          exact HF.out v t 0 0 _ HN.out rfl rfl
        · have hsl2 : (s.toList == ([] : List UInt8)) = false := by
            rw [beq_eq_false_iff_ne]
            intro c
            rw [ByteArray.toList_eq] at c
            have : s.data.toList.length = 0 := by rw [c]; rfl
            exact h0 this
          have HN : Hid (R = (0, 4, s.size)) := Lib.hid (by have := HS.out; rw [if_pos ⟨by omega, hev⟩] at this; exact this.symm)
          have H0 := Lib.hid h0
          clear HS hlt hev h0
          go_wp2
          exact HF.out v 0 4 s.size _ HN.out rfl rfl
      · have hs0 : st = 1 := by omega
        subst hs0
        have HN : Hid (R = (t, 0, 0)) := Lib.hid (by have := HS.out; rw [if_neg (fun h => hev h.2)] at this; exact this.symm)
        clear HS hlt hev hst
        go_wp2
        exact HF.out v t 0 0 _ HN.out rfl rfl

end Go.Proofs.YtpfhgklajaigfaaDoor
