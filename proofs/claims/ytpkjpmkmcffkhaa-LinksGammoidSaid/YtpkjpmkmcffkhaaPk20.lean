
/-
  rotaref.Paths, links.reached: what is reached in a directed graph; rotaref.Barrier; links.right.
  Structs of several cells in a block of their own; the results of functions that hand back a struct and an error.
-/
import Derived.Test.YtpkjpmkmcffkhaaPk19
import Derived.Test.YtpkjpmkmcffkhaaPk08
import Derived.Laws.ResultCell
namespace Go.Proofs.Ytpkjpmkmcffkhaa
open Go.RowKit
set_option linter.unusedVariables false

set_option maxRecDepth 100000 in
set_option maxHeartbeats 8000000 in
theorem c_paths {B : Nat} {W : World} (u : Later B W) (n fr gone : Nat) (es : List (Int × Int)) (a : Option Addr) (cap : Nat) (h : EdgesAt B W a es) (hG : isGraph (n : Int) es) (hfr : fr < bit n) (hgo : gone < bit n) :
    Calls Try.prog 30 #[.agg #[.int .i64 n, .slice a es.length cap], .int .i64 fr, .int .i64 gone] u.val (Ret B W (.int .i64 (rchS es fr gone))) := by
  have hn7 : n ≤ 7 := by have := hG.2.1; omega
  have he8 : es.length ≤ 8 := hG.2.2.1
  have hbn := bit_le n (by omega)
  have T0 : Hid (Two (u.val.alloc (.cells #[.int .i64 n, .slice a es.length cap] 24)) u.val.heap.size 24 (.int .i64 n) (.slice a es.length cap)) := Lib.hid (Two.new _ _ _ _)
  have hrr : u.val.heap.size < (u.val.alloc (.cells #[.int .i64 n, .slice a es.length cap] 24)).heap.size := by simp
  have HV : Hid (∀ v : Later (u.val.alloc (.cells #[.int .i64 n, .slice a es.length cap] 24)).heap.size (u.val.alloc (.cells #[.int .i64 n, .slice a es.length cap] 24)), ∃ w : Later B W, w.val = v.val) := Lib.hid (fun v => ⟨(u.alloc _).up v, rfl⟩)
  have HE : Hid (EdgesAt (u.val.alloc (.cells #[.int .i64 n, .slice a es.length cap] 24)).heap.size (u.val.alloc (.cells #[.int .i64 n, .slice a es.length cap] 24)) a es) := Lib.hid (h.to (u.alloc _))
  have HG := Lib.hid (Grf.of hG)
  have HI := Lib.hid hG
  have o0 := i64_andNot fr gone (by omega) (by omega)
  clear h hG
  go_enter Try.func30, Try.ntmps30
  go_upto_region 1 with fail
  generalize hr2 : u.val.heap.size = g0 at *
  generalize u.val.alloc (.cells #[.int .i64 n, .slice a es.length cap] 24) = W1 at *
  clear hr2 u
  obtain ⟨v0, hv0⟩ : ∃ v0 : Later W1.heap.size W1, v0.val = W1 := ⟨Later.self _, rfl⟩
  have q0 : ∀ v : Later W1.heap.size W1, v.val.cell? ⟨g0, 0, none⟩ = some (.int .i64 n) := fun v => (T0.out.keep_at v.below hrr).c0
  have q1 : ∀ v : Later W1.heap.size W1, v.val.cell? ⟨g0, 1, none⟩ = some (.slice a es.length cap) := fun v => (T0.out.keep_at v.below hrr).c1
  rw [← hv0]
  clear hv0
  have HS0 : Hid (Rin n es fr gone (nand fr gone)) := Lib.hid (Rin.start hfr)
  generalize nand fr gone = s0 at *
  go_wp2
  go_loopw [7] (fun i wr => ∃ (s : Nat) (v : Later W1.heap.size W1), i = .int .i64 s ∧ wr = v.val ∧ Hid (Rin n es fr gone s)) (fun i _ => 256 - (intOf i).toNat)
  case atStart => exact ⟨s0, v0, rfl, rfl, HS0⟩
  case round =>
    clear v0 HS0 o0
    obtain ⟨s, v, rfl, rfl, HS⟩ := hrel
    have hsn := HS.out.lt
    go_wp2
    go_loopw [8, 9] (fun t i wr => ∃ (k : Nat) (v : Later W1.heap.size W1), k ≤ es.length ∧ i = .int .i64 k ∧ t = .int .i64 (passT es s gone k) ∧ wr = v.val) (fun _ i _ => es.length - (intOf i).toNat)
    case atStart => exact ⟨0, v, by omega, rfl, rfl, rfl⟩
    case round =>
      clear v
      obtain ⟨k, v, hk, rfl, rfl, rfl⟩ := hrel
      have q1v := q1 v
      have htn := (passT_rin HG.out HS.out k hk).lt
      by_cases hlt : k < es.length
      · obtain ⟨be, offe, rfl, hbe, hce⟩ := HE.out.at hlt
        have e0 := (hce v k hlt).1
        have e1 := (hce v k hlt).2
        have HX := HI.out.2.2.2 k hlt
        have HSt : Hid (passT es s gone (k + 1) = if s.testBit (vA es k) = true ∧ gone.testBit (vB es k) = false then passT es s gone k ||| bit (vB es k) else passT es s gone k) := Lib.hid rfl
        obtain ⟨y, hy⟩ := Int.eq_ofNat_of_zero_le HX.1
        obtain ⟨z, hz⟩ := Int.eq_ofNat_of_zero_le HX.2.1
        have hvy : vA es k = y := by unfold vA; rw [hy]; rfl
        have hvz : vB es k = z := by unfold vB; rw [hz]; rfl
        rw [hy, hz] at HX
        have hyn : y < n := by omega
        have hzn : z < n := by omega
        rw [hy] at e0
        rw [hz] at e1
        rw [hvy, hvz] at HSt
        clear HX hy hz hce hvy hvz
        have T1 : Hid (Two (v.val.alloc (.cells #[.int .i64 y, .int .i64 z] 34)) v.val.heap.size 34 (.int .i64 y) (.int .i64 z)) := Lib.hid (Two.new _ _ _ _)
        have hbl : v.val.heap.size < (v.val.alloc (.cells #[.int .i64 y, .int .i64 z] 34)).heap.size := by simp
        obtain ⟨v1, hv1⟩ : ∃ v1 : Later W1.heap.size W1, v1.val = v.val.alloc (.cells #[.int .i64 y, .int .i64 z] 34) := ⟨v.alloc _, rfl⟩
        have b2 := bit_cast z
        have b3 := bit_lt z (by omega)
        have o1 := i64_or (passT es s gone k) (bit z) (by omega) (by omega)
        generalize passT es s gone k = tk at *
        go_upto_region 7 with fail
        rw [← hv1] at T1 hbl ⊢
        clear e0 e1 hv1
        clear q1v
        generalize v.val.heap.size = ge at *
        clear v
        have c0 : ∀ w : Later v1.val.heap.size v1.val, w.val.cell? ⟨ge, 0, none⟩ = some (.int .i64 y) := fun w => (T1.out.keep_at w.below hbl).c0
        have c1 : ∀ w : Later v1.val.heap.size v1.val, w.val.cell? ⟨ge, 1, none⟩ = some (.int .i64 z) := fun w => (T1.out.keep_at w.below hbl).c1
        have c0v : v1.val.cell? ⟨ge, 0, none⟩ = some (.int .i64 y) := c0 (Later.self _)
        have K1 := Lib.hid (c_in (Later.self v1.val) s y (by omega) (by omega))
        have K2 := Lib.hid (fun w : Later v1.val.heap.size v1.val => c_in w gone z (by omega) (by omega))
        dsimp only [Later.self] at K1
        rcases btf (s.testBit y) with g1 | g1
        · rw [g1] at K1 HSt
          rcases btf (gone.testBit z) with g2 | g2
          · rw [g2] at K2 HSt
            have HN : Hid (passT es s gone (k + 1) = tk) := Lib.hid (by rw [HSt.out]; simp)
            clear HSt g1 g2
            go_wp2_with (first | (go_at_call 9; refine (K1.out).mono ?_; rintro e _ ⟨rfl, v2, rfl⟩) | (go_at_call 9; refine ((K2.out v2)).mono ?_; rintro e _ ⟨rfl, v3, rfl⟩))
            go_roundw
            case rel => exact ⟨k+1, v1.up v3, by omega, by go_num, by rw [HN.out], rfl⟩
            case measure => simp [intOf]; omega
          · rw [g2] at K2 HSt
            have HN : Hid (passT es s gone (k + 1) = tk ||| bit z) := Lib.hid (by rw [HSt.out]; simp)
            clear HSt g1 g2
            go_wp2_with (first | (go_at_call 9; refine (K1.out).mono ?_; rintro e _ ⟨rfl, v2, rfl⟩) | (go_at_call 9; refine ((K2.out v2)).mono ?_; rintro e _ ⟨rfl, v3, rfl⟩))
            go_roundw
            case rel => exact ⟨k+1, v1.up v3, by omega, by go_num, by rw [HN.out], rfl⟩
            case measure => simp [intOf]; omega
        · rw [g1] at K1 HSt
          have HN : Hid (passT es s gone (k + 1) = tk) := Lib.hid (by rw [HSt.out]; simp)
          clear HSt g1
          go_wp2_with (first | (go_at_call 9; refine (K1.out).mono ?_; rintro e _ ⟨rfl, v2, rfl⟩))
          go_roundw
          case rel => exact ⟨k+1, v1.up v2, by omega, by go_num, by rw [HN.out], rfl⟩
          case measure => simp [intOf]; omega
      · have hke : k = es.length := by omega
        subst hke
        by_cases he : passT es s gone es.length = s
        · have HL := Lib.hid (HS.out.last HG.out hfr (passT_closed he))
          rw [he] at htn ⊢
          clear he
          go_wp2
          go_ret
          obtain ⟨w, hw⟩ := HV.out v
          rw [← hw, ← HL.out]; exact Ret.mk w rfl
        · have hlt2 := passT_lt he
          have HR := Lib.hid (passT_rin HG.out HS.out es.length (Nat.le_refl _))
          generalize passT es s gone es.length = t at *
          have d1 : ((t : Int) == (s : Int)) = false := by rw [beq_eq_false_iff_ne]; omega
          have d2 : (t == s) = false := by rw [beq_eq_false_iff_ne]; omega
          clear he
          go_wp2
          go_roundw
          case rel => exact ⟨t, v, rfl, rfl, HR⟩
          case measure => simp [intOf]; omega

set_option maxRecDepth 100000 in
set_option maxHeartbeats 8000000 in
theorem c_reached {B : Nat} {W : World} (u : Later B W) (n fr gone : Nat) (es : List (Int × Int)) (a : Option Addr) (cap : Nat) (h : EdgesAt B W a es) (hG : isGraph (n : Int) es) (hfr : fr < bit n) (hgo : gone < bit n) :
    Calls Try.prog 36 #[.agg #[.int .i64 n, .slice a es.length cap], .int .i64 fr, .int .i64 gone] u.val (Ret B W (.int .i64 (rchS es fr gone))) := by
  have hn7 : n ≤ 7 := by have := hG.2.1; omega
  have he8 : es.length ≤ 8 := hG.2.2.1
  have hbn := bit_le n (by omega)
  have T0 : Hid (Two (u.val.alloc (.cells #[.int .i64 n, .slice a es.length cap] 24)) u.val.heap.size 24 (.int .i64 n) (.slice a es.length cap)) := Lib.hid (Two.new _ _ _ _)
  have hrr : u.val.heap.size < (u.val.alloc (.cells #[.int .i64 n, .slice a es.length cap] 24)).heap.size := by simp
  have HV : Hid (∀ v : Later (u.val.alloc (.cells #[.int .i64 n, .slice a es.length cap] 24)).heap.size (u.val.alloc (.cells #[.int .i64 n, .slice a es.length cap] 24)), ∃ w : Later B W, w.val = v.val) := Lib.hid (fun v => ⟨(u.alloc _).up v, rfl⟩)
  have HE : Hid (EdgesAt (u.val.alloc (.cells #[.int .i64 n, .slice a es.length cap] 24)).heap.size (u.val.alloc (.cells #[.int .i64 n, .slice a es.length cap] 24)) a es) := Lib.hid (h.to (u.alloc _))
  have HG := Lib.hid (Grf.of hG)
  have HI := Lib.hid hG
  have o0 := i64_andNot fr gone (by omega) (by omega)
  clear h hG
  go_enter Try.func36, Try.ntmps36
  go_upto_region 1 with fail
  generalize hr2 : u.val.heap.size = g0 at *
  generalize u.val.alloc (.cells #[.int .i64 n, .slice a es.length cap] 24) = W1 at *
  clear hr2 u
  obtain ⟨v0, hv0⟩ : ∃ v0 : Later W1.heap.size W1, v0.val = W1 := ⟨Later.self _, rfl⟩
  have q0 : ∀ v : Later W1.heap.size W1, v.val.cell? ⟨g0, 0, none⟩ = some (.int .i64 n) := fun v => (T0.out.keep_at v.below hrr).c0
  have q1 : ∀ v : Later W1.heap.size W1, v.val.cell? ⟨g0, 1, none⟩ = some (.slice a es.length cap) := fun v => (T0.out.keep_at v.below hrr).c1
  have q0v := q0 v0
  rw [← hv0]
  clear hv0
  have HS0 : Hid (Rin n es fr gone (nand fr gone)) := Lib.hid (Rin.start hfr)
  have HL := Lib.hid (swpR_last HG.out hfr HS0.out)
  generalize nand fr gone = s0 at *
  go_wp2
  clear q0v
  go_loopw [7, 15] (fun s i wr => ∃ (r : Nat) (v : Later W1.heap.size W1), r ≤ n ∧ i = .int .i64 r ∧ s = .int .i64 (swpR es s0 gone r) ∧ wr = v.val) (fun _ i _ => n - (intOf i).toNat)
  case atStart => exact ⟨0, v0, by omega, rfl, rfl, rfl⟩
  case round =>
    clear v0 o0
    obtain ⟨r, v, hr, rfl, rfl, rfl⟩ := hrel
    have HR : Hid (Rin n es fr gone (swpR es s0 gone r)) := Lib.hid (swpR_rin HG.out HS0.out r)
    have HSr : Hid (swpR es s0 gone (r + 1) = swpT es (swpR es s0 gone r) gone es.length) := Lib.hid rfl
    by_cases hrn : r < n
    · generalize swpR es s0 gone r = s at *
      have q1v := q1 v
      go_wp2
      clear q1v
      go_loopw [7, 20] (fun t i wr => ∃ (k : Nat) (v : Later W1.heap.size W1), k ≤ es.length ∧ i = .int .i64 k ∧ t = .int .i64 (swpT es s gone k) ∧ wr = v.val) (fun _ i _ => es.length - (intOf i).toNat)
      case atStart => exact ⟨0, v, by omega, rfl, rfl, rfl⟩
      case round =>
        clear v
        obtain ⟨k, v, hk, rfl, rfl, rfl⟩ := hrel
        have htn := (swpT_rin HG.out HR.out k hk).lt
        by_cases hlt : k < es.length
        · obtain ⟨be, offe, rfl, hbe, hce⟩ := HE.out.at hlt
          have e0 := (hce v k hlt).1
          have e1 := (hce v k hlt).2
          have HX := HI.out.2.2.2 k hlt
          have HSt : Hid (swpT es s gone (k + 1) = if (swpT es s gone k).testBit (vA es k) = true then swpT es s gone k ||| nand (bit (vB es k)) gone else swpT es s gone k) := Lib.hid rfl
          obtain ⟨y, hy⟩ := Int.eq_ofNat_of_zero_le HX.1
          obtain ⟨z, hz⟩ := Int.eq_ofNat_of_zero_le HX.2.1
          have hvy : vA es k = y := by unfold vA; rw [hy]; rfl
          have hvz : vB es k = z := by unfold vB; rw [hz]; rfl
          rw [hy, hz] at HX
          have hyn : y < n := by omega
          have hzn : z < n := by omega
          rw [hy] at e0
          rw [hz] at e1
          rw [hvy, hvz] at HSt
          clear HX hy hz hce hvy hvz
          have by1 := bit_cast y
          have by3 := bit_lt y (by omega)
          have b2 := bit_cast z
          have b3 := bit_lt z (by omega)
          have o1 := i64_andNot (bit z) gone (by omega) (by omega)
          have hnz := nand_le (bit z) gone
          have o2 := i64_or (swpT es s gone k) (nand (bit z) gone) (by omega) (by omega)
          have s1 := shr_andC (swpT es s gone k) y (by omega)
          rw [by1] at s1
          generalize nand (bit z) gone = nz at *
          generalize swpT es s gone k = tk at *
          rcases btf (tk.testBit y) with g1 | g1
          · rw [g1] at s1 HSt
            have HN : Hid (swpT es s gone (k + 1) = tk ||| nz) := Lib.hid (by rw [HSt.out]; simp)
            clear HSt g1
            go_wp2
            go_roundw
            case rel => exact ⟨k+1, v.alloc (.cells #[.int .i64 y, .int .i64 z] 34), by omega, by go_num, by rw [HN.out], rfl⟩
            case measure => simp [intOf]; omega
          · rw [g1] at s1 HSt
            have HN : Hid (swpT es s gone (k + 1) = tk) := Lib.hid (by rw [HSt.out]; simp)
            clear HSt g1
            go_wp2
            go_roundw
            case rel => exact ⟨k+1, v.alloc (.cells #[.int .i64 y, .int .i64 z] 34), by omega, by go_num, by rw [HN.out], rfl⟩
            case measure => simp [intOf]; omega
        · have hke : k = es.length := by omega
          subst hke
          go_wp2
          go_roundw
          case rel => exact ⟨r+1, v, by omega, by go_num, by rw [HSr.out], rfl⟩
          case measure => simp [intOf]; omega
    · have hre : r = n := by omega
      subst hre
      rw [HL.out]
      go_wp2
      go_ret
      obtain ⟨w, hw⟩ := HV.out v
      rw [← hw]; exact Ret.mk w rfl

end Go.Proofs.Ytpkjpmkmcffkhaa

namespace Go.Proofs.Ytpkjpmkmcffkhaa
open Go.RowKit
set_option linter.unusedVariables false

def RowL (w : World) (g : Nat) (t : TypeId) (vs : List Value) : Prop := w.heap[g]? = some (.cells vs.toArray t (0, 0))
namespace RowL
variable {w : World} {g : Nat} {t : TypeId} {vs : List Value}
theorem new (w : World) (t : TypeId) (vs : List Value) : RowL (w.alloc (.cells vs.toArray t)) w.heap.size t vs := heap_alloc_new w _
theorem cell (h : RowL w g t vs) {i : Nat} {x : Value} (hx : vs[i]? = some x) : w.cell? ⟨g, i, none⟩ = some x := by
  rw [cell_of_row w g i _ _ _ h]
  simpa using hx
theorem fz (h : RowL w g t vs) (i : Nat) : w.frozen? ⟨g, i, none⟩ = false := by
  have h' : w.heap[g]? = _ := h
  unfold World.frozen?
  rw [h']; simp
theorem lt (h : RowL w g t vs) : g < w.heap.size := by
  have h' : w.heap[g]? = _ := h
  exact (Array.getElem?_eq_some_iff.1 h').1
theorem keep_at {w' : World} {B : Nat} (h : RowL w g t vs) (hb : Below B w w') (hg : g < B) : RowL w' g t vs := by
  show w'.heap[g]? = _
  rw [hb.block g hg]; exact h
theorem keep {w' : World} (h : RowL w g t vs) (hb : Below w.heap.size w w') : RowL w' g t vs := h.keep_at hb h.lt
theorem set (h : RowL w g t vs) (i : Nat) (x : Value) : RowL (w.setCell ⟨g, i, none⟩ x) g t (vs.set i x) := by
  have h' : w.heap[g]? = _ := h
  simp only [RowL, World.setCell, Array.getElem?_modify, h']
  simp [List.setIfInBounds_toArray]
end RowL
theorem results_row {fn : Func} {p x : Tmp} {ty : TypeId} (h : fn.results = #[.cell p ty, .tmp x]) {P : Program} (tmps : Array Value) (w : World) (g : Nat) {t : TypeId} {vs : List Value} {fs : Array Field}
    (hp : tmps.getD p undef = .pointer (some ⟨g, 0, none⟩)) (hT : RowL w g t vs)
    (hu : P.underlying ty = some (.struct fs)) (hi : (P.info? ty).map (·.size) = some vs.length) :
    (results fn tmps).run P w = .ok (.tuple #[.agg vs.toArray, tmps.getD x undef]) w := by
  have hl := run_loadVar_row (P := P) w g t ty vs.toArray (0, 0) _ hT hu rfl (by simpa using hi)
  rw [results_cell_tmp h, hp]
  simp [asAddr, Result.andThen, hl]
theorem later_set {B : Nat} {W w : World} (h : ∃ u : Later B W, u.val = w) {g i : Nat} (hg : B ≤ g) (x : Value) : ∃ u : Later B W, u.val = w.setCell ⟨g, i, none⟩ x := by
  obtain ⟨u, rfl⟩ := h
  exact ⟨u.set ⟨g, i, none⟩ hg x, rfl⟩
/-- a call from a later world: its end is later too, and all that the world had stands -/
def ThreadP {B : Nat} {W : World} (v : Later B W) (Q : Value → World → Prop) : Ending → World → Prop := fun e w' => ∃ (v' : Later B W) (x : Value), e = .returned x ∧ w' = v'.val ∧ Q x v'.val ∧ Below v.val.heap.size v.val v'.val
theorem threadP {P : Program} {f : FuncId} {args : Array Value} {B : Nat} {W : World} {Q : Value → World → Prop} (v : Later B W) (h : Calls P f args v.val (RetP v.val.heap.size v.val Q)) : Calls P f args v.val (ThreadP v Q) := h.mono (by
  rintro e _ ⟨x, rfl, hq, y, rfl⟩
  exact ⟨v.up y, x, rfl, rfl, hq, y.below⟩)
theorem Own.le {B : Nat} {w : World} {ad : Option Addr} {cap : Nat} {xs : List Int} (h : Own B w ad cap xs) : xs.length ≤ cap := by
  rcases h.2 with ⟨e, hn⟩ | ⟨g, c, cur, e, h1, h2, h3, h4, h5, h6⟩
  · omega
  · simp only [Value.slice.injEq] at e
    omega

end Go.Proofs.Ytpkjpmkmcffkhaa
