
/-
  rotaref.FirstWays$1: its walk.
  links.Ways: its two function values, which call one another.
-/
import Derived.Test.YtnhpefcjgaimeaaPk42
import Derived.Test.YtnhpefcjgaimeaaPk33
import Derived.Deep.RegionHeld3
namespace Go.Proofs.Ytnhpefcjgaimeaa
open Go.RowKit
set_option linter.unusedVariables false

/-- what FirstWays's function values hang on -/
structure FwOk (bo : Nat) (W : World) (n : Nat) (es : List (Int × Int)) (a : Option Addr) (cap fr tw bl bg bt bn : Nat) (al : Option Addr) (cpl : Nat) : Prop where
  lt : bo < W.heap.size ∧ bl < W.heap.size ∧ bg < W.heap.size ∧ bt < W.heap.size ∧ bn < W.heap.size
  ne : bl ≠ bo ∧ bg ≠ bo ∧ bt ≠ bo ∧ bn ≠ bo
  graph : isGraph (n : Int) es
  hfr : fr < bit n
  htw : tw < bit n
  edges : EdgesAt bo W a es
  cl : W.cell? ⟨bl, 0, none⟩ = some (.slice al (elems fr).length cpl)
  list : 0 < (elems fr).length → RowV W bo none (elems fr) al cpl
  cg0 : W.cell? ⟨bg, 0, none⟩ = some (.int .i64 n)
  cg1 : W.cell? ⟨bg, 1, none⟩ = some (.slice a es.length cap)
  ct : W.cell? ⟨bt, 0, none⟩ = some (.int .i64 tw)
  cn : W.cell? ⟨bn, 0, none⟩ = some (.func (.func 18) #[] #[.pointer (some ⟨bl, 0, none⟩), .pointer (some ⟨bg, 0, none⟩), .pointer (some ⟨bt, 0, none⟩), .pointer (some ⟨bo, 0, none⟩), .pointer (some ⟨bn, 0, none⟩)])

set_option maxRecDepth 100000 in
set_option maxHeartbeats 8000000 in
theorem c_nextEnd (bo : Nat) (W : World) (n : Nat) (es : List (Int × Int)) (a : Option Addr) (cap fr tw bl bg bt bn : Nat) (al : Option Addr) (cpl : Nat) (H : FwOk bo W n es a cap fr tw bl bg bt bn al cpl) (k : Nat) (hkL : (elems fr).length = k) (w : World) (gone : Nat) (pre : Rws) (ad : Option Addr) (cp : Nat) (hw : Kept bo none W w) (hO : OutR bo w ad k cp pre) (hp : pre.length = k) :
    Calls Try.prog 18 #[.int .i64 k, .int .i64 gone, .pointer (some ⟨bl, 0, none⟩), .pointer (some ⟨bg, 0, none⟩), .pointer (some ⟨bt, 0, none⟩), .pointer (some ⟨bo, 0, none⟩), .pointer (some ⟨bn, 0, none⟩)] w (RPost bo w (some []) pre) := by
  have hal : Below w.heap.size w ((w.alloc (.cells #[.int .i64 k] 3)).alloc (.cells #[.int .i64 gone] 3)) := ((Below.refl _ _).alloc (Nat.le_refl _) _).alloc (by simp) _
  have HKw : Hid (Kept bo none w ((w.alloc (.cells #[.int .i64 k] 3)).alloc (.cells #[.int .i64 gone] 3))) := Lib.hid (Kept.of hal)
  have HO : Hid (OutR bo ((w.alloc (.cells #[.int .i64 k] 3)).alloc (.cells #[.int .i64 gone] 3)) ad k cp pre) := Lib.hid (hO.keep hal)
  have hk : Kept bo none W ((w.alloc (.cells #[.int .i64 k] 3)).alloc (.cells #[.int .i64 gone] 3)) := hw.trans (NewB.refl _ _) (Kept.of hal)
  have s0 : ((w.alloc (.cells #[.int .i64 k] 3)).alloc (.cells #[.int .i64 gone] 3)).cell? ⟨bl, 0, none⟩ = some (.slice al k cpl) := by rw [hk.cell H.lt.2.1 H.ne.1 (by simp), H.cl, hkL]
  have hx : RowAt1 (w.alloc (.cells #[.int .i64 k] 3)) w.heap.size 3 (.int .i64 k) := heap_alloc_new _ _
  have s1 : ((w.alloc (.cells #[.int .i64 k] 3)).alloc (.cells #[.int .i64 gone] 3)).cell? ⟨w.heap.size, 0, none⟩ = some (.int .i64 k) := (hx.keep ((Below.refl _ _).alloc (Nat.le_refl _) _)).c0
  have HP := Lib.hid hp
  clear hO hw hk hal hx H hkL hp
  go_enter Try.func18, Try.ntmps18
  go_wp2
  go_ret
  exact ⟨HKw.out, .inl ⟨[], ad, cp, rfl, rfl, by rw [List.append_nil, HP.out]; exact HO.out⟩⟩

set_option maxRecDepth 100000 in
set_option maxHeartbeats 8000000 in
theorem c_nextStep (bo : Nat) (W : World) (n : Nat) (es : List (Int × Int)) (a : Option Addr) (cap fr tw bl bg bt bn : Nat) (al : Option Addr) (cpl : Nat) (H : FwOk bo W n es a cap fr tw bl bg bt bn al cpl) (k v : Nat) (ls : List Nat) (hkL : k < (elems fr).length) (hv : (elems fr).getD k 0 = v) (hNX : NextR bo W (k + 1) n (waysF n (edB es) tw ls) (.pointer (some ⟨bl, 0, none⟩)) (.pointer (some ⟨bg, 0, none⟩)) (.pointer (some ⟨bt, 0, none⟩)) (.pointer (some ⟨bo, 0, none⟩)) (.pointer (some ⟨bn, 0, none⟩))) :
    NextR bo W k n (waysF n (edB es) tw (v :: ls)) (.pointer (some ⟨bl, 0, none⟩)) (.pointer (some ⟨bg, 0, none⟩)) (.pointer (some ⟨bt, 0, none⟩)) (.pointer (some ⟨bo, 0, none⟩)) (.pointer (some ⟨bn, 0, none⟩)) := by
  intro w gone pre ad len cp hw hO hp hlk hg
  subst hlk
  have hn7 : n ≤ 7 := by have := H.graph.2.1; omega
  have hbn := bit_le n (by omega)
  have hL8 : (elems fr).length ≤ 8 := sz_le fr
  have hvm : v ∈ elems fr := by
    rw [← hv, List.getD_eq_getElem?_getD, List.getElem?_eq_getElem hkL]
    exact List.getElem_mem hkL
  have hvn : v < n := (lt_pow_iff n fr (by omega) (by have := H.hfr; omega)).1 H.hfr v (mem_elems.1 hvm).1 (mem_elems.1 hvm).2
  obtain ⟨gl, ofl, hal, hgl, hcl⟩ := (H.list (by omega)).ints (by intro e; have := congrArg List.length e; rw [ints_len] at this; simp at this; rw [this] at hkL; simp at hkL)
  have hgo : gl ≠ bo := ((H.list (by omega)).off _ hal).2.1
  subst hal
  have hlc := hcl len (by rw [ints_len]; exact hkL)
  rw [ints_getD, hv] at hlc
  have hale : Below w.heap.size w ((w.alloc (.cells #[.int .i64 len] 3)).alloc (.cells #[.int .i64 gone] 3)) := ((Below.refl _ _).alloc (Nat.le_refl _) _).alloc (by simp) _
  have HKw : Hid (Kept bo none w ((w.alloc (.cells #[.int .i64 len] 3)).alloc (.cells #[.int .i64 gone] 3))) := Lib.hid (Kept.of hale)
  have HO : Hid (OutR bo ((w.alloc (.cells #[.int .i64 len] 3)).alloc (.cells #[.int .i64 gone] 3)) ad len cp pre) := Lib.hid (hO.keep hale)
  have hk : Kept bo none W ((w.alloc (.cells #[.int .i64 len] 3)).alloc (.cells #[.int .i64 gone] 3)) := hw.trans (NewB.refl _ _) (Kept.of hale)
  have HK : Hid (Kept bo none W ((w.alloc (.cells #[.int .i64 len] 3)).alloc (.cells #[.int .i64 gone] 3))) := Lib.hid hk
  have hx : RowAt1 (w.alloc (.cells #[.int .i64 len] 3)) w.heap.size 3 (.int .i64 len) := heap_alloc_new _ _
  have hx1 : RowAt1 ((w.alloc (.cells #[.int .i64 len] 3)).alloc (.cells #[.int .i64 gone] 3)) w.heap.size 3 (.int .i64 len) := hx.keep ((Below.refl _ _).alloc (Nat.le_refl _) _)
  have hy1 : RowAt1 ((w.alloc (.cells #[.int .i64 len] 3)).alloc (.cells #[.int .i64 gone] 3)) (w.alloc (.cells #[.int .i64 len] 3)).heap.size 3 (.int .i64 gone) := heap_alloc_new _ _
  have e1 : (w.alloc (.cells #[.int .i64 len] 3)).heap.size = w.heap.size + 1 := by simp
  rw [e1] at hy1
  have hbo := H.lt.1
  have hws := hw.size
  have hyz : Hid (((w.alloc (.cells #[.int .i64 len] 3)).alloc (.cells #[.int .i64 gone] 3)).heap.size = w.heap.size + 2) := Lib.hid (by simp)
  have sW : ∀ w', Kept bo none ((w.alloc (.cells #[.int .i64 len] 3)).alloc (.cells #[.int .i64 gone] 3)) w' → w'.cell? ⟨bl, 0, none⟩ = some (.slice (some ⟨gl, ofl, none⟩) (elems fr).length cpl) ∧ w'.cell? ⟨gl, ofl + len, none⟩ = some (.int .i64 v) ∧ w'.cell? ⟨bg, 0, none⟩ = some (.int .i64 n) ∧ w'.cell? ⟨bg, 1, none⟩ = some (.slice a es.length cap) ∧ w'.cell? ⟨bt, 0, none⟩ = some (.int .i64 tw) ∧ w'.cell? ⟨w.heap.size, 0, none⟩ = some (.int .i64 len) ∧ w'.cell? ⟨w.heap.size + 1, 0, none⟩ = some (.int .i64 gone) := fun w' h => by
    have hk' := hk.trans (NewB.refl _ _) h
    refine ⟨by rw [hk'.cell H.lt.2.1 H.ne.1 (by simp)]; exact H.cl, by rw [hk'.cell (a := ⟨gl, ofl + len, none⟩) hgl hgo (by simp)]; exact hlc, by rw [hk'.cell H.lt.2.2.1 H.ne.2.1 (by simp)]; exact H.cg0, by rw [hk'.cell H.lt.2.2.1 H.ne.2.1 (by simp)]; exact H.cg1, by rw [hk'.cell H.lt.2.2.2.1 H.ne.2.2.1 (by simp)]; exact H.ct, ?_, ?_⟩
    · rw [h.cell (by show w.heap.size < _; rw [hyz.out]; omega) (by show w.heap.size ≠ bo; omega) (by simp)]; exact hx1.c0
    · rw [h.cell (by show w.heap.size + 1 < _; rw [hyz.out]; omega) (by show w.heap.size + 1 ≠ bo; omega) (by simp)]; exact hy1.c0
  have HDo : Hid (DoP bo ((w.alloc (.cells #[.int .i64 len] 3)).alloc (.cells #[.int .i64 gone] 3)) n gone (waysF n (edB es) tw ls) pre (.pointer (some ⟨bo, 0, none⟩)) (.pointer (some ⟨w.heap.size, 0, none⟩)) (.pointer (some ⟨bn, 0, none⟩)) (.pointer (some ⟨w.heap.size + 1, 0, none⟩))) := Lib.hid (by
    intro y ad len' cp way b1 off1 cpw hky hOy hR h0 h8 hwn
    exact c_doW bo ((w.alloc (.cells #[.int .i64 len] 3)).alloc (.cells #[.int .i64 gone] 3)) w.heap.size (w.heap.size + 1) bn len n gone _ _ _ _ _ _ hn7 (by omega) hg (by rw [hyz.out]; have := H.lt; omega) (by have := H.ne; omega) hx1.c0 hy1.c0 (by rw [hk.cell H.lt.2.2.2.2 H.ne.2.2.2 (by simp)]; exact H.cn) (fun w1 gone1 pre1 ad1 len1 cp1 h1 => hNX w1 gone1 pre1 ad1 len1 cp1 (hk.trans (NewB.refl _ _) h1)) y hky pre ad len' cp hOy hp way b1 off1 cpw hR h0 h8 hwn)
  have HE : Hid (EachP bo ((w.alloc (.cells #[.int .i64 len] 3)).alloc (.cells #[.int .i64 gone] 3)) n tw gone es a cap (waysF n (edB es) tw ls) pre (.pointer (some ⟨bo, 0, none⟩)) (.pointer (some ⟨w.heap.size, 0, none⟩)) (.pointer (some ⟨bn, 0, none⟩)) (.pointer (some ⟨w.heap.size + 1, 0, none⟩)) 8) := Lib.hid (c_eachW bo ((w.alloc (.cells #[.int .i64 len] 3)).alloc (.cells #[.int .i64 gone] 3)) n tw gone es a cap _ pre _ _ _ _ H.graph (H.edges.kept (by omega) hk) H.htw hg (by rw [hyz.out]; omega) HDo.out 8)
  have HRes : Hid (waysF n (edB es) tw (v :: ls) gone = if gone.testBit v = true then none else onF n (edB es) tw (waysF n (edB es) tw ls) 8 [v] (gone ||| bit v)) := Lib.hid rfl
  have hrr : Hid (prfT [v] [v].length = bit v) := Lib.hid (by show 0 ||| bit v = _; rw [Nat.zero_or])
  generalize waysF n (edB es) tw (v :: ls) gone = res at *
  generalize waysF n (edB es) tw ls = nx at *
  have hlL : (elems fr).length ≠ len := by omega
  have hkL' : len < (elems fr).length := hkL
  have hbw : bo < w.heap.size := by omega
  clear HDo hNX H hO hw hk hx hx1 hy1 hale hcl hlc hv hvm e1 hws hbo hp
  have hs0 : w.heap.size < ((w.alloc (.cells #[.int .i64 len] 3)).alloc (.cells #[.int .i64 gone] 3)).heap.size ∧ w.heap.size + 1 < ((w.alloc (.cells #[.int .i64 len] 3)).alloc (.cells #[.int .i64 gone] 3)).heap.size := by rw [hyz.out]; omega
  clear hyz
  go_enter Try.func18, Try.ntmps18
  go_upto_region 1 with fail
  generalize w.heap.size = g0 at *
  generalize hYY : ((w.alloc (.cells #[.int .i64 len] 3)).alloc (.cells #[.int .i64 gone] 3)) = Y at *
  have sY := sW Y (Kept.of (Below.refl _ _))
  have f1 : ((len : Int) == ((elems fr).length : Int)) = false := by rw [beq_eq_false_iff_ne]; omega
  have f2 : (len == (elems fr).length) = false := by rw [beq_eq_false_iff_ne]; omega
  generalize (elems fr).length = L at *
  have KI : Hid (Calls Try.prog 19 #[.int .i64 gone, .int .i64 v] Y.drew (Ret Y.drew.heap.size Y.drew (.bool (gone.testBit v)))) := Lib.hid (c_in (Later.self Y.drew) gone v (by omega) (by omega))
  have sZ : ∀ y : Later Y.drew.heap.size Y.drew, _ := fun y => sW y.val (Kept.of (((Below.refl Y.heap.size Y).drew).trans y.below))
  have sD := sW Y.drew (Kept.of (Below.refl _ _).drew)
  rcases btf (gone.testBit v) with g1 | g1
  · rw [g1] at KI HRes
    have HR2 : Hid (res = none) := Lib.hid (by rw [HRes.out, if_pos rfl])
    clear HRes HE hrr sW
    go_upto_region 3 with fail
    go_region_held3 (fun w' => w'.cell? ⟨bl, 0, none⟩ = some (.slice (some ⟨gl, ofl, none⟩) L cpl) ∧ w'.cell? ⟨gl, ofl + len, none⟩ = some (.int .i64 v) ∧ w'.cell? ⟨bg, 0, none⟩ = some (.int .i64 n) ∧ w'.cell? ⟨bg, 1, none⟩ = some (.slice a es.length cap) ∧ w'.cell? ⟨bt, 0, none⟩ = some (.int .i64 tw) ∧ w'.cell? ⟨g0, 0, none⟩ = some (.int .i64 len) ∧ w'.cell? ⟨g0 + 1, 0, none⟩ = some (.int .i64 gone)) (first | exact sD | exact sZ y | fail) (first | (go_at_call 19; ((with_reducible refine (KI.out).mono ?_); rintro e _ ⟨rfl, y, rfl⟩)) | fail)
    all_goals
      go_wp2
      go_ret
      exact ⟨HKw.out.trans (NewB.refl _ _) (Kept.of (((Below.refl Y.heap.size Y).drew).trans y.below)), .inr ⟨HR2.out, rfl, ad, len, cp, HO.out.keep (((Below.refl Y.heap.size Y).drew).trans y.below)⟩⟩
  · rw [g1] at KI HRes
    have HR2 : Hid (res = onF n (edB es) tw nx 8 [v] (gone ||| bit v)) := Lib.hid (by rw [HRes.out, if_neg (by decide)])
    clear HRes
    go_upto_region 3 with fail
    go_region_held3 (fun w' => w'.cell? ⟨bl, 0, none⟩ = some (.slice (some ⟨gl, ofl, none⟩) L cpl) ∧ w'.cell? ⟨gl, ofl + len, none⟩ = some (.int .i64 v) ∧ w'.cell? ⟨bg, 0, none⟩ = some (.int .i64 n) ∧ w'.cell? ⟨bg, 1, none⟩ = some (.slice a es.length cap) ∧ w'.cell? ⟨bt, 0, none⟩ = some (.int .i64 tw) ∧ w'.cell? ⟨g0, 0, none⟩ = some (.int .i64 len) ∧ w'.cell? ⟨g0 + 1, 0, none⟩ = some (.int .i64 gone)) (first | exact sD | exact sZ y | fail) (first | (go_at_call 19; ((with_reducible refine (KI.out).mono ?_); rintro e _ ⟨rfl, y, rfl⟩)) | fail)
    have hby : Below Y.heap.size Y y.val := ((Below.refl Y.heap.size Y).drew).trans y.below
    have hYb : bo < Y.heap.size := by omega
    have hbx : Below Y.heap.size Y (y.val.alloc (.cells #[.int .i64 (v : Int)] 3)).drew := (hby.alloc hby.size _).drew
    have hr1 : RowAt1 (y.val.alloc (.cells #[.int .i64 (v : Int)] 3)).drew y.val.heap.size 3 (.int .i64 (v : Int)) := heap_alloc_new y.val _
    have hys := hby.size
    have hrv : RowV (y.val.alloc (.cells #[.int .i64 (v : Int)] 3)).drew bo none [v] (some ⟨y.val.heap.size, 0, none⟩) 1 := {
      nil := fun h => by cases h
      ints := fun _ => ⟨y.val.heap.size, 0, rfl, by simp, fun i hi => by
        have : i = 0 := by simp [ints] at hi; omega
        subst this
        exact hr1.c0⟩
      off := fun a ha => by
        cases ha
        exact ⟨by simp, by show y.val.heap.size ≠ bo; omega, by simp⟩ }
    have KE : Hid (Calls Try.prog 20 #[.agg #[.int .i64 n, .slice a es.length cap], .slice (some ⟨y.val.heap.size, 0, none⟩) 1 1, .int .i64 gone, .int .i64 tw, .func (.func 21) #[] #[.pointer (some ⟨bo, 0, none⟩), .pointer (some ⟨g0, 0, none⟩), .pointer (some ⟨bn, 0, none⟩), .pointer (some ⟨g0 + 1, 0, none⟩)]] (y.val.alloc (.cells #[.int .i64 (v : Int)] 3)).drew (fun e w' => ∃ bb, e = .returned (.bool bb) ∧ Kept bo none Y w' ∧ RPost bo w res pre (.returned (.bool bb)) w')) := Lib.hid (by
      have := HE.out (y.val.alloc (.cells #[.int .i64 (v : Int)] 3)).drew ad len cp [v] y.val.heap.size 0 1 (Kept.of hbx) (HO.out.keep hbx) hrv (by simp) (by simp) (fun j hj => by
        have : j = 0 := by simp at hj; omega
        subst this
        exact hvn) (by omega)
      rw [hrr.out, ← HR2.out] at this
      refine this.mono ?_
      rintro e w' ⟨hk2, h⟩
      have hkY := (Kept.of hbx).trans (NewB.refl _ _) hk2
      have hkW := HKw.out.trans (NewB.refl _ _) hkY
      rcases h with ⟨r, ad', cp', h1, rfl, h3⟩ | ⟨h1, rfl, h3⟩
      · exact ⟨true, rfl, hkY, hkW, .inl ⟨r, ad', cp', h1, rfl, h3⟩⟩
      · exact ⟨false, rfl, hkY, hkW, .inr ⟨h1, rfl, h3⟩⟩)
    have sE := sW y.val.drew (Kept.of hby.drew)
    have sF := sW (y.val.alloc (.cells #[.int .i64 (v : Int)] 3)).drew (Kept.of hbx)
    clear HE HR2 HO HKw hrr KI sY sZ sD hr1 hrv hbx
    go_upto_region 5 with fail
    go_region_held3 (fun w' => w'.cell? ⟨bl, 0, none⟩ = some (.slice (some ⟨gl, ofl, none⟩) L cpl) ∧ w'.cell? ⟨gl, ofl + len, none⟩ = some (.int .i64 v) ∧ w'.cell? ⟨bg, 0, none⟩ = some (.int .i64 n) ∧ w'.cell? ⟨bg, 1, none⟩ = some (.slice a es.length cap) ∧ w'.cell? ⟨bt, 0, none⟩ = some (.int .i64 tw) ∧ w'.cell? ⟨g0, 0, none⟩ = some (.int .i64 len) ∧ w'.cell? ⟨g0 + 1, 0, none⟩ = some (.int .i64 gone)) (first | exact sE | exact sF | exact sW _ hkY | fail) (first | (go_at_call 20; ((with_reducible refine (KE.out).mono ?_); rintro e w4 ⟨bb, rfl, hkY, hP⟩)) | fail)
    all_goals
      go_wp2
      go_ret
      exact hP

theorem c_nextR (bo : Nat) (W : World) (n : Nat) (es : List (Int × Int)) (a : Option Addr) (cap fr tw bl bg bt bn : Nat) (al : Option Addr) (cpl : Nat) (H : FwOk bo W n es a cap fr tw bl bg bt bn al cpl) : ∀ d k, k + d = (elems fr).length → NextR bo W k n (waysF n (edB es) tw ((elems fr).drop k)) (.pointer (some ⟨bl, 0, none⟩)) (.pointer (some ⟨bg, 0, none⟩)) (.pointer (some ⟨bt, 0, none⟩)) (.pointer (some ⟨bo, 0, none⟩)) (.pointer (some ⟨bn, 0, none⟩)) := by
  intro d
  induction d with
  | zero =>
    intro k hk w gone pre ad len cp hw hO hp hlk hg
    subst hlk
    rw [List.drop_eq_nil_of_le (by omega)]
    exact c_nextEnd bo W n es a cap fr tw bl bg bt bn al cpl H len (by omega) w gone pre ad cp hw hO hp
  | succ d ih =>
    intro k hk
    have hlt : k < (elems fr).length := by omega
    rw [List.drop_eq_getElem_cons hlt]
    exact c_nextStep bo W n es a cap fr tw bl bg bt bn al cpl H k _ _ hlt (by rw [List.getD_eq_getElem?_getD, List.getElem?_eq_getElem hlt]; rfl) (ih (k + 1) (by omega))

end Go.Proofs.Ytnhpefcjgaimeaa

namespace Go.Proofs.Ytnhpefcjgaimeaa
open Go.RowKit
set_option linter.unusedVariables false


/-- a world later than one of these, but for the captured list -/
def Aside.kept {B b : Nat} {W : World} (v : Aside B b W) (w : World) {o : Option Nat} (h : Kept b o v.val w) (ho : ∀ g, o = some g → B ≤ g) : Aside B b W :=
  ⟨w, h.os.trans v.os, h.tape.trans v.tape, h.output.trans v.output, Nat.le_trans v.size h.size, Nat.le_trans v.base h.size, fun k hk hb => (h.block k (Nat.lt_of_lt_of_le hk v.base) hb (fun e => by have := ho k e; omega)).trans (v.block k hk hb)⟩
/-- what these functions give back -/
def OnPost (B bo : Nat) (W : World) (v : Aside B bo W) (ado : Option Addr) (res : Option Rws) (pre : Rws) (e : Ending) (w' : World) : Prop :=
  ∃ (v' : Aside B bo W) (ado' : Option Addr) (cpo' : Nat), w' = v'.val ∧ Kept bo (ownBlk ado) v.val v'.val ∧ NewB v.val (ownBlk ado) (ownBlk ado') ∧ ((∃ r, res = some r ∧ e = .returned (.bool true) ∧ OutW B bo v'.val ado' cpo' (pre ++ r)) ∨ (res = none ∧ e = .returned (.bool false) ∧ OutW B bo v'.val ado' cpo' pre))
def OnP (B bo : Nat) (W : World) (n : Nat) (es : List (Int × Int)) (a : Option Addr) (cap fr tw bg bf bt bn bon : Nat) (nx : Nat → Option Rws) (x L fuel : Nat) : Prop := ∀ (v : Aside B bo W) (way : List Nat) (b1 off1 cpw gone : Nat) (pre : Rws) (ado : Option Addr) (cpo : Nat), OutW B bo v.val ado cpo pre → RowV v.val bo (ownBlk ado) way (some ⟨b1, off1, none⟩) cpw → way ≠ [] → way.length + fuel ≤ 9 → lastN way < n → gone < bit n → n + 1 ≤ fuel + sz gone → pre.length + L ≤ 6 →
  Calls Try.prog 27 #[.slice (some ⟨b1, off1, none⟩) way.length cpw, .int .i64 gone, .int .i64 x, .pointer (some ⟨bt, 0, none⟩), .pointer (some ⟨bo, 0, none⟩), .pointer (some ⟨bn, 0, none⟩), .pointer (some ⟨bg, 0, none⟩), .pointer (some ⟨bon, 0, none⟩)] v.val (OnPost B bo W v ado (onF n (edB es) tw nx fuel way gone) pre)
def NxP (B bo : Nat) (W : World) (n : Nat) (es : List (Int × Int)) (a : Option Addr) (cap fr tw bg bf bt bn bon : Nat) (ls : List Nat) : Prop := ∀ (v : Aside B bo W) (x gone : Nat) (pre : Rws) (ado : Option Addr) (cpo : Nat), OutW B bo v.val ado cpo pre → x ≤ n → elemsGe fr x = ls → gone < bit n → pre.length + ls.length ≤ 7 →
  Calls Try.prog 30 #[.int .i64 x, .int .i64 gone, .pointer (some ⟨bg, 0, none⟩), .pointer (some ⟨bf, 0, none⟩), .pointer (some ⟨bon, 0, none⟩)] v.val (OnPost B bo W v ado (waysF n (edB es) tw ls gone) pre)
/-- what the boxes hold -/
structure WyOk (B bo : Nat) (W : World) (n : Nat) (es : List (Int × Int)) (a : Option Addr) (cap fr tw bg bf bt bn bon : Nat) : Prop where
  hBW : B ≤ W.heap.size
  lt : bo < B ∧ bg < B ∧ bf < B ∧ bt < B ∧ bn < B ∧ bon < B
  ne : bg ≠ bo ∧ bf ≠ bo ∧ bt ≠ bo ∧ bn ≠ bo ∧ bon ≠ bo
  graph : isGraph (n : Int) es
  hfr : fr < bit n
  htw : tw < bit n
  edges : EdgesAt bo W a es
  cg0 : W.cell? ⟨bg, 0, none⟩ = some (.int .i64 n)
  cg1 : W.cell? ⟨bg, 1, none⟩ = some (.slice a es.length cap)
  cf : W.cell? ⟨bf, 0, none⟩ = some (.int .i64 fr)
  ct : W.cell? ⟨bt, 0, none⟩ = some (.int .i64 tw)
  cn : W.cell? ⟨bn, 0, none⟩ = some (.func (.func 30) #[] #[.pointer (some ⟨bg, 0, none⟩), .pointer (some ⟨bf, 0, none⟩), .pointer (some ⟨bon, 0, none⟩)])
  con : W.cell? ⟨bon, 0, none⟩ = some (.func (.func 27) #[] #[.pointer (some ⟨bt, 0, none⟩), .pointer (some ⟨bo, 0, none⟩), .pointer (some ⟨bn, 0, none⟩), .pointer (some ⟨bg, 0, none⟩), .pointer (some ⟨bon, 0, none⟩)])

/-- at the way's loop -/
def WyCut (B bo : Nat) (W : World) (v : Aside B bo W) (ado : Option Addr) (way : List Nat) (b1 off1 cpw : Nat) (pre : Rws) (c : Prop) (w : World) : Prop :=
  ∃ (v2 : Aside B bo W) (ad2 : Option Addr) (cp2 : Nat), w = v2.val ∧ OutW B bo v2.val ad2 cp2 pre ∧ RowV v2.val bo (ownBlk ad2) way (some ⟨b1, off1, none⟩) cpw ∧ Kept bo (ownBlk ado) v.val v2.val ∧ NewB v.val (ownBlk ado) (ownBlk ad2) ∧ c
/-- what a way's longer one answers -/
def WyAns (B bo : Nat) (W : World) (v3 : Aside B bo W) (ad2 : Option Addr) (rr : Option Rws) (pre : Rws) (bb : Bool) (v' : Aside B bo W) (ad' : Option Addr) (cp' : Nat) : Prop :=
  Kept bo (ownBlk ad2) v3.val v'.val ∧ NewB v3.val (ownBlk ad2) (ownBlk ad') ∧ ((bb = true ∧ ∃ r, rr = some r ∧ OutW B bo v'.val ad' cp' (pre ++ r)) ∨ (bb = false ∧ rr = none ∧ OutW B bo v'.val ad' cp' pre))

/-- a new row of the call's own is none of these blocks -/
theorem row_of_own {w w' : World} {b : Nat} {ado : Option Addr} {row : List Nat} {ad : Option Addr} {cp : Nat} {B : Nat} {cpo : Nat} {rows : Rws} (hO : OutW B b w ado cpo rows) (h : Own w.heap.size w' ad cp (ints row)) : RowV w' b (ownBlk ado) row ad cp where
  nil := h.cap
  ints := h.reads
  off := fun a ha => by
    subst ha
    rcases h.2 with ⟨e, _⟩ | ⟨g, c, cur, e, hb, hh, _⟩
    · cases e
    · simp only [Value.slice.injEq, Option.some.injEq] at e
      have e1 := e.1
      subst e1
      have h1 : g < w'.heap.size := (Array.getElem?_eq_some_iff.1 hh).1
      refine ⟨h1, ?_, fun e => ?_⟩
      · have := hO.1
        have := hO.2.1
        show g ≠ b
        omega
      · have := (hO.blk _ e).2.1
        simp only at this
        omega

set_option maxRecDepth 100000 in
set_option maxHeartbeats 16000000 in
theorem c_onW (B bo : Nat) (W : World) (n : Nat) (es : List (Int × Int)) (a : Option Addr) (cap fr tw bg bf bt bn bon : Nat) (H : WyOk B bo W n es a cap fr tw bg bf bt bn bon) (ls : List Nat) (x : Nat) (hx : x < n) (hls : elemsGe fr (x + 1) = ls) (hl7 : ls.length ≤ 6) (HNX : NxP B bo W n es a cap fr tw bg bf bt bn bon ls) :
    ∀ fuel, OnP B bo W n es a cap fr tw bg bf bt bn bon (waysF n (edB es) tw ls) x ls.length fuel := by
  have hn7 : n ≤ 7 := by have := H.graph.2.1; omega
  have hbn := bit_le n (by omega)
  have hsn : ∀ s, s < bit n → sz s ≤ n := fun s hs => sz_le_m (by omega) hs
  have qg0 : ∀ v : Aside B bo W, v.val.cell? ⟨bg, 0, none⟩ = some (.int .i64 n) := fun v => by rw [v.cell H.lt.2.1 H.ne.1]; exact H.cg0
  have qg1 : ∀ v : Aside B bo W, v.val.cell? ⟨bg, 1, none⟩ = some (.slice a es.length cap) := fun v => by rw [v.cell H.lt.2.1 H.ne.1]; exact H.cg1
  have qt : ∀ v : Aside B bo W, v.val.cell? ⟨bt, 0, none⟩ = some (.int .i64 tw) := fun v => by rw [v.cell H.lt.2.2.2.1 H.ne.2.2.1]; exact H.ct
  have qn : ∀ v : Aside B bo W, v.val.cell? ⟨bn, 0, none⟩ = some (.func (.func 30) #[] #[.pointer (some ⟨bg, 0, none⟩), .pointer (some ⟨bf, 0, none⟩), .pointer (some ⟨bon, 0, none⟩)]) := fun v => by rw [v.cell H.lt.2.2.2.2.1 H.ne.2.2.2.1]; exact H.cn
  have qon : ∀ v : Aside B bo W, v.val.cell? ⟨bon, 0, none⟩ = some (.func (.func 27) #[] #[.pointer (some ⟨bt, 0, none⟩), .pointer (some ⟨bo, 0, none⟩), .pointer (some ⟨bn, 0, none⟩), .pointer (some ⟨bg, 0, none⟩), .pointer (some ⟨bon, 0, none⟩)]) := fun v => by rw [v.cell H.lt.2.2.2.2.2 H.ne.2.2.2.2]; exact H.con
  have hp1 : ∀ (args : Array Value) (w : World), (callFunc 27 args).run Try.prog w = .ok (.enter 27 args) w := fun _ _ => by kernel_rfl
  have hp2 : ∀ (args : Array Value) (w : World), (callFunc 30 args).run Try.prog w = .ok (.enter 30 args) w := fun _ _ => by kernel_rfl
  have HE : Hid (∀ v : Aside B bo W, EdgesAt v.val.heap.size v.val a es) := Lib.hid (fun v => by
    intro hne
    obtain ⟨b, off, rfl, hlt, hc⟩ := H.edges hne
    have hbB : b < B := by have := H.lt.1; omega
    refine ⟨b, off, rfl, by have := v.base; omega, fun k hk => ?_⟩
    rw [v.cell (a := ⟨b, off + k * 2, none⟩) hbB (by show b ≠ bo; omega), v.cell (a := ⟨b, off + k * 2 + 1, none⟩) hbB (by show b ≠ bo; omega)]
    exact hc k hk)
  have HGr := Lib.hid H.graph
  have htw8 : tw < 256 := by have := H.htw; omega
  have HNx := Lib.hid HNX
  have HLs := Lib.hid hls
  clear HNX hls
  intro fuel
  induction fuel with
  | zero =>
    intro v way b1 off1 cpw gone pre ado cpo _ _ _ _ _ hg hf _
    have := hsn gone hg
    omega
  | succ fuel ih =>
  intro v way b1 off1 cpw gone pre ado cpo hO hR hne hlen hlast hg hfu hpre
  have IH := Lib.hid ih
  have HO := Lib.hid hO
  have HR := Lib.hid hR
  have HF := Lib.hid hfu
  obtain ⟨q, hq⟩ : ∃ q, way.length = q + 1 := ⟨way.length - 1, by have := List.length_pos_iff.2 hne; omega⟩
  have hl8 : lastN way < 8 := by omega
  have HLast : Hid (∀ v' : Aside B bo W, RowV v'.val bo none way (some ⟨b1, off1, none⟩) cpw → v'.val.cell? ⟨b1, off1 + q, none⟩ = some (.int .i64 (lastN way : Nat))) := Lib.hid (fun v' h => by
    obtain ⟨g, off, e, hlt, hc⟩ := h.ints (by intro e; have := congrArg List.length e; rw [ints_len, hq] at this; simp at this)
    simp only [Option.some.injEq, Addr.mk.injEq] at e
    obtain ⟨rfl, rfl, _⟩ := e
    have := hc q (by rw [ints_len]; omega)
    rw [this, ints_getD]
    unfold lastN
    rw [hq]
    rfl)
  have cl : v.val.cell? ⟨b1, off1 + q, none⟩ = some (.int .i64 (lastN way : Nat)) := HLast.out v ⟨hR.nil, hR.ints, fun a ha => ⟨(hR.off a ha).1, (hR.off a ha).2.1, by simp⟩⟩
  have s1 := shr_andC tw (lastN way) htw8
  have bl := bit_cast (lastN way)
  have hbl := bit_lt (lastN way) hl8
  rw [bl] at s1
  have HHit := Lib.hid (fun r => onF_hit (n := n) (ed := edB es) (tw := tw) (nx := waysF n (edB es) tw ls) (f := fuel) (way := way) (used := gone) (r := r))
  have HElse := Lib.hid (onF_else (n := n) (ed := edB es) (tw := tw) (nx := waysF n (edB es) tw ls) (f := fuel) (way := way) (used := gone))
  have HStep : Hid (∀ w, onStep n (edB es) tw (waysF n (edB es) tw ls) fuel way gone w = if gone.testBit w = true ∨ edB es (lastN way) w = false then none else onF n (edB es) tw (waysF n (edB es) tw ls) fuel (way ++ [w]) (gone ||| bit w)) := Lib.hid (fun w => rfl)
  have HLn : Hid (∀ w, lastN (way ++ [w]) = w) := Lib.hid (lastN_snoc way)
  clear ih hO hR hfu
  rw [hq]
  generalize hla : lastN way = la at *
  generalize hres : onF n (edB es) tw (waysF n (edB es) tw ls) (fuel + 1) way gone = res at *
  generalize hnxg : waysF n (edB es) tw ls gone = nxg at *
  have HNg := Lib.hid hnxg
  clear hla hres hnxg
  go_enter Try.func27, Try.ntmps27
  go_upto_if 24 with fail
  go_cut [24] from 20 to 39 (fun x_ w_ => WyCut B bo W v ado way b1 off1 cpw pre (res = fstTo (onStep n (edB es) tw (waysF n (edB es) tw ls) fuel way gone) n) w_)
  case first => as_aux_lemma =>
    rcases btf (tw.testBit la) with g1 | g1
    · have gb : ((((tw.testBit la).toNat : Nat) : Int) == 1) = true := by rw [g1]; rfl
      rw [gb]
      rw [g1] at s1
      clear gb
      have hop : pre.length + 1 ≤ 4294967296 := by omega
      have d0 : v.val.drew.cell? ⟨bo, 0, none⟩ = some (.slice ado pre.length cpo) := HO.out.2.2.1.c0
      go_upto_region 3 with fail
      have KC := Lib.hid (c_cloneI (Later.self v.val.drew) (ints way) b1 off1 cpw (by exact HR.out.ints) (by rw [ints_len]; omega))
      rw [ints_len, hq] at KC
      dsimp only [Later.self] at KC
      have HOy : Hid (∀ y : Later v.val.drew.heap.size v.val.drew, OutW B bo y.val ado cpo pre) := Lib.hid (fun y => (HO.out.keep (Below.refl _ _).drew).keep y.below)
      have HRy : Hid (∀ (y : Later v.val.drew.heap.size v.val.drew) (ad : Option Addr) (cp : Nat), Own v.val.drew.heap.size y.val ad cp (ints way) → RowV y.val bo (ownBlk ado) way ad cp) := Lib.hid (fun y ad cp h => row_of_own (HO.out.keep (Below.refl _ _).drew) h)
      have d1 : ∀ y : Later v.val.drew.heap.size v.val.drew, y.val.cell? ⟨bo, 0, none⟩ = some (.slice ado pre.length cpo) := fun y => (HOy.out y).2.2.1.c0
      have d2 : ∀ (y : Later v.val.drew.heap.size v.val.drew) (o : Obj), (y.val.alloc o).cell? ⟨bo, 0, none⟩ = some (.slice ado pre.length cpo) := fun y o => d1 (y.alloc o)
      have d3 : ∀ (y : Later v.val.drew.heap.size v.val.drew) (p : PushW B bo y.val ado cpo pre way), p.val.cell? ⟨bo, 0, none⟩ = some (.slice ado pre.length cpo) := fun y p => p.cell.c0
      have d4 : ∀ (y : Later v.val.drew.heap.size v.val.drew) (p : PushW B bo y.val ado cpo pre way), p.val.frozen? ⟨bo, 0, none⟩ = false := fun y p => p.cell.frozen
      have hil : Hid ((ints way).length = q + 1) := Lib.hid (by rw [ints_len]; exact hq)
      go_region_law (first | ((refine step_pushW (w := y2.val) (HOy.out y2) (HRy.out y2 adC cpC hC) (by rfl) _ _ (by rfl) (by rfl) (by rfl) hop ?_; intro p)) | (go_simp; go_at_call 28; (with_reducible refine (KC.out).mono ?_); rintro e _ ⟨_, rfl, ⟨adC, cpC, rfl, hC⟩, y2, rfl⟩))
      all_goals
        have hkd : Kept bo (ownBlk ado) v.val y2.val := (Kept.of (Below.refl _ _).drew).trans (NewB.refl _ _) (Kept.of y2.below)
        have HKp : Hid (Kept bo (ownBlk ado) v.val (p.val.setCell ⟨bo, 0, none⟩ (.slice (some ⟨p.g, 0, none⟩) (pre.length + 1) p.cp'))) := Lib.hid (hkd.trans (NewB.refl _ _) (p.all _))
        have HNp : Hid (NewB v.val (ownBlk ado) (some p.g)) := Lib.hid (p.new.elim .inl (fun ⟨g, e1, e2⟩ => .inr ⟨g, e1, Nat.le_trans hkd.size e2⟩))
        have HOp : Hid (OutW B bo (p.val.setCell ⟨bo, 0, none⟩ (.slice (some ⟨p.g, 0, none⟩) (pre.length + 1) p.cp')) (some ⟨p.g, 0, none⟩) p.cp' (pre ++ [way])) := Lib.hid p.out
        obtain ⟨v1, hv1⟩ : ∃ v1 : Aside B bo W, v1.val = p.val.setCell ⟨bo, 0, none⟩ (.slice (some ⟨p.g, 0, none⟩) (pre.length + 1) p.cp') := ⟨v.kept _ HKp.out (fun g hg => (HO.out.blk g hg).1), rfl⟩
        rw [← hv1] at HKp HOp ⊢
        have HRp : Hid (RowV v1.val bo (some p.g) way (some ⟨b1, off1, none⟩) cpw) := Lib.hid (HR.out.kept HKp.out HNp.out)
        generalize p.g = pg at *
        generalize p.cp' = pcp at *
        clear hv1 hkd p KC HOy HRy d1 d2 d3 d4 d0 hC
        have K4 : Hid (Calls Try.prog 30 #[.int .i64 ((x : Int) + 1), .int .i64 gone, .pointer (some ⟨bg, 0, none⟩), .pointer (some ⟨bf, 0, none⟩), .pointer (some ⟨bon, 0, none⟩)] v1.val (OnPost B bo W v1 (some ⟨pg, 0, none⟩) nxg (pre ++ [way]))) := Lib.hid (by
          have := HNx.out v1 (x + 1) gone (pre ++ [way]) (some ⟨pg, 0, none⟩) pcp HOp.out (by omega) HLs.out hg (by rw [List.length_append]; simp; omega)
          rw [HNg.out] at this
          exact this)
        have fn := qn v1
        cases hnr : nxg with
        | some r =>
          have K5 : Hid (Calls Try.prog 30 #[.int .i64 ((x : Int) + 1), .int .i64 gone, .pointer (some ⟨bg, 0, none⟩), .pointer (some ⟨bf, 0, none⟩), .pointer (some ⟨bon, 0, none⟩)] v1.val (fun e w' => ∃ (v' : Aside B bo W) (ad' : Option Addr) (cp' : Nat), e = .returned (.bool true) ∧ w' = v'.val ∧ Kept bo (some pg) v1.val v'.val ∧ NewB v1.val (some pg) (ownBlk ad') ∧ OutW B bo v'.val ad' cp' (pre ++ [way] ++ r))) := Lib.hid (K4.out.mono (by
            rintro e _ ⟨v', ad', cp', rfl, hk, hn, h⟩
            rcases h with ⟨r', h1, h2, h3⟩ | ⟨h1, _⟩
            · rw [hnr] at h1
              cases h1
              exact ⟨v', ad', cp', h2, rfl, hk, hn, h3⟩
            · rw [hnr] at h1; cases h1))
          have hr := HHit.out r g1 hnr
          subst hr
          clear K4 HElse hnr g1
          go_wp2_with (first | (go_at_call 30; (with_reducible refine (K5.out).mono ?_); rintro e _ ⟨v4, ad4, cp4, rfl, rfl, hk4, hn4, hO4⟩))
          go_ret
          refine ⟨v4, ad4, cp4, rfl, HKp.out.trans HNp.out hk4, NewB.trans HKp.out.size HNp.out hn4, .inl ⟨way :: r, rfl, rfl, ?_⟩⟩
          rw [List.append_assoc] at hO4
          exact hO4
        | none =>
          have K5 : Hid (Calls Try.prog 30 #[.int .i64 ((x : Int) + 1), .int .i64 gone, .pointer (some ⟨bg, 0, none⟩), .pointer (some ⟨bf, 0, none⟩), .pointer (some ⟨bon, 0, none⟩)] v1.val (fun e w' => ∃ (v' : Aside B bo W) (ad' : Option Addr) (cp' : Nat), e = .returned (.bool false) ∧ w' = v'.val ∧ Kept bo (some pg) v1.val v'.val ∧ NewB v1.val (some pg) (ownBlk ad') ∧ OutW B bo v'.val ad' cp' (pre ++ [way]))) := Lib.hid (K4.out.mono (by
            rintro e _ ⟨v', ad', cp', rfl, hk, hn, h⟩
            rcases h with ⟨r', h1, _⟩ | ⟨_, h2, h3⟩
            · rw [hnr] at h1; cases h1
            · exact ⟨v', ad', cp', h2, rfl, hk, hn, h3⟩))
          have HEl := Lib.hid (HElse.out (.inr hnr))
          clear K4 HElse HHit hnr g1 HNg
          go_upto_region 6 with (first | (go_at_call 30; (with_reducible refine (K5.out).mono ?_); rintro e _ ⟨v4, ad2, cp2, rfl, rfl, hk4, hn4, hO4⟩))
          have z0 : v4.val.cell? ⟨bo, 0, none⟩ = some (.slice ad2 (pre.length + 1) cp2) := by
            have := hO4.2.2.1.c0
            rwa [List.length_append] at this
          have z1 : v4.val.frozen? ⟨bo, 0, none⟩ = false := hO4.2.2.1.frozen
          have hroom := hO4.room
          rw [List.length_append] at hroom
          have hroom2 : pre.length ≤ cp2 := by simp at hroom; omega
          have HO2 : Hid (OutW B bo (v4.val.setCell ⟨bo, 0, none⟩ (.slice ad2 pre.length cp2)) ad2 cp2 pre) := Lib.hid hO4.pop
          have hk6 : Kept bo (ownBlk ad2) v4.val (v4.val.setCell ⟨bo, 0, none⟩ (.slice ad2 pre.length cp2)) := ⟨rfl, rfl, rfl, by simp, fun k _ hb _ => Below.heap_setCell _ _ _ _ hb⟩
          have HN2 : Hid (NewB v.val (ownBlk ado) (ownBlk ad2)) := Lib.hid (NewB.trans HKp.out.size HNp.out hn4)
          have HK4 : Kept bo (ownBlk ado) v.val v4.val := HKp.out.trans HNp.out hk4
          have HK2 : Hid (Kept bo (ownBlk ado) v.val (v4.val.setCell ⟨bo, 0, none⟩ (.slice ad2 pre.length cp2))) := Lib.hid (HK4.trans HN2.out hk6)
          obtain ⟨v2, hv2⟩ : ∃ v2 : Aside B bo W, v2.val = v4.val.setCell ⟨bo, 0, none⟩ (.slice ad2 pre.length cp2) := ⟨v4.store _, rfl⟩
          obtain ⟨ga, hga⟩ : ∃ g, ad2 = some ⟨g, 0, none⟩ := by
            obtain ⟨_, _, _, vs, ho, _⟩ := hO4
            rcases ho.2 with ⟨_, e⟩ | ⟨g, c, cur, e, _⟩
            · simp at e
            · simp only [Value.slice.injEq] at e
              exact ⟨g, e.1⟩
          subst hga
          have HR2 : Hid (RowV v2.val bo (ownBlk (some ⟨ga, 0, none⟩)) way (some ⟨b1, off1, none⟩) cpw) := Lib.hid (by rw [hv2]; exact HR.out.kept HK2.out HN2.out)
          rw [← hv2] at HO2 HK2
          have e3 : decide ((pre.length : Int) ≤ (cp2 : Int)) = true := decide_eq_true (by omega)
          have e4 : decide (pre.length ≤ cp2) = true := decide_eq_true hroom2
          go_upto_region 7 with fail
          go_meet
          case rel => exact ⟨v2, some ⟨ga, 0, none⟩, cp2, hv2.symm, hv2 ▸ HO2.out, HR2.out, hv2 ▸ HK2.out, HN2.out, HEl.out⟩
    · have gb : ((((tw.testBit la).toNat : Nat) : Int) == 1) = false := by rw [g1]; rfl
      rw [gb]
      rw [g1] at s1
      clear gb
      have HEl := Lib.hid (HElse.out (.inl g1))
      clear HElse HHit g1 HNg
      go_wp2
      go_meet
      case rel => exact ⟨v, ado, cpo, rfl, HO.out, HR.out, Kept.refl _ _ _, NewB.refl _ _, HEl.out⟩
  case rest => as_aux_lemma =>
  obtain ⟨v2, ad2, cp2, rfl, hO2, hR2, hK2, hN2, hEl⟩ := hcut
  have HO2 := Lib.hid hO2
  have HR2 := Lib.hid hR2
  have HK2 := Lib.hid hK2
  have HN2 := Lib.hid hN2
  have HEl := Lib.hid hEl
  clear hO2 hR2 hK2 hN2 hEl HHit HElse HNg s1 cl HLast HNx HLs
  generalize hst : onStep n (edB es) tw (waysF n (edB es) tw ls) fuel way gone = stp at *
  clear hst
  have qgv := qg0 v2
  go_wp2
  clear qgv
  go_loopw [42] (fun i wr => ∃ (w : Nat) (v2 : Aside B bo W) (ad2 : Option Addr) (cp2 : Nat), w ≤ n ∧ i = .int .i64 w ∧ wr = v2.val ∧ Hid (OutW B bo v2.val ad2 cp2 pre) ∧ Hid (RowV v2.val bo (ownBlk ad2) way (some ⟨b1, off1, none⟩) cpw) ∧ Hid (Kept bo (ownBlk ado) v.val v2.val) ∧ Hid (NewB v.val (ownBlk ado) (ownBlk ad2)) ∧ Hid (∀ j, j < w → stp j = none)) (fun i _ => n - (intOf i).toNat)
  case atStart => exact ⟨0, v2, ad2, cp2, by omega, rfl, rfl, HO2, HR2, HK2, HN2, Lib.hid (fun j hj => by omega)⟩
  case round =>
    clear HO2 HR2 HK2 HN2 v2 ad2 cp2
    obtain ⟨w, v2, ad2, cp2, hw, rfl, rfl, HO2, HR2, HK2, HN2, HNo⟩ := hrel
    by_cases hwn : w < n
    · have HNx2 : Hid (stp w = none → ∀ j, j < w + 1 → stp j = none) := Lib.hid (fun h j hj => by
        by_cases c : j = w
        · subst c; exact h
        · exact HNo.out j (by omega))
      have HSw := Lib.hid (HStep.out w)
      have HYes : Hid (∀ r, stp w = some r → res = some r) := Lib.hid (fun r h => by rw [HEl.out]; exact fstTo_some hwn HNo.out h)
      have s2 := shr_andC gone w (by omega)
      have bw := bit_cast w
      have hbw := bit_lt w (by omega)
      rw [bw] at s2
      rcases btf (gone.testBit w) with g2 | g2
      · rw [g2] at s2
        have HN3 := Lib.hid (HNx2.out (by rw [HSw.out, if_pos (.inl g2)]))
        clear HSw HYes HNx2 g2 HNo
        go_wp2
        go_roundw
        case rel => exact ⟨w+1, v2, ad2, cp2, by omega, by go_num, rfl, HO2, HR2, HK2, HN2, HN3⟩
        case measure => simp [intOf]; omega
      · rw [g2] at s2
        have KCo := Lib.hid (c_containsE (Later.self v2.val) n la w es a cap (HE.out v2) HGr.out)
        dsimp only [Later.self] at KCo
        have q1v := qg1 v2
        rcases btf (edB es la w) with g3 | g3
        case inr =>
          rw [g3] at KCo
          have HN3 := Lib.hid (HNx2.out (by rw [HSw.out, if_pos (.inr g3)]))
          clear HSw HYes HNx2 g2 g3 HNo
          go_wp2_with (first | (go_at_call 29; (with_reducible refine (KCo.out).mono ?_); rintro e _ ⟨rfl, y, rfl⟩))
          go_roundw
          case rel => exact ⟨w+1, v2.up y, ad2, cp2, by omega, by go_num, rfl, Lib.hid (HO2.out.keep y.below), Lib.hid (HR2.out.kept (Kept.of y.below) (NewB.refl _ _)), Lib.hid (HK2.out.trans HN2.out (Kept.of y.below)), HN2, HN3⟩
          case measure => simp [intOf]; omega
        rw [g3] at KCo
        have hgw : gone ||| bit w < bit n := or_lt_bit hg (bit_lt_bit hwn)
        have HSw2 : Hid (stp w = onF n (edB es) tw (waysF n (edB es) tw ls) fuel (way ++ [w]) (gone ||| bit w)) := Lib.hid (by
          rw [HSw.out, if_neg (by
            rintro (c | c)
            · rw [g2] at c; cases c
            · rw [g3] at c; cases c)])
        have hfu2 : n + 1 ≤ fuel + sz (gone ||| bit w) := by
          rw [sz_add (by omega) g2]
          have := HF.out
          omega
        clear HSw g2 g3 HNo
        go_upto_region 11 with (first | (go_at_call 29; (with_reducible refine (KCo.out).mono ?_); rintro e _ ⟨rfl, y, rfl⟩))
        have HO3 : Hid (OutW B bo y.val ad2 cp2 pre) := Lib.hid (HO2.out.keep y.below)
        have HR3 : Hid (RowV y.val bo (ownBlk ad2) way (some ⟨b1, off1, none⟩) cpw) := Lib.hid (HR2.out.kept (Kept.of y.below) (NewB.refl _ _))
        have HK3 : Hid (Kept bo (ownBlk ado) v.val y.val) := Lib.hid (HK2.out.trans HN2.out (Kept.of y.below))
        obtain ⟨v3, hv3⟩ : ∃ v3 : Aside B bo W, v3.val = y.val := ⟨v2.up y, rfl⟩
        rw [← hv3] at HO3 HR3 HK3 ⊢
        clear hv3 HO2 HR2 HK2 KCo q1v y v2
        have KCa := Lib.hid (c_cloneI ((Later.self v3.val).drew) (ints way) b1 off1 cpw HR3.out.ints (by rw [ints_len]; omega))
        have KCb := Lib.hid (c_cloneI (Later.self (v3.val.alloc (.cells #[.int .i64 (w : Int)] 3)).drew) (ints way) b1 off1 cpw (HR3.out.ints.to ((Later.self v3.val).alloc (.cells #[.int .i64 (w : Int)] 3)).drew) (by rw [ints_len]; omega))
        rw [ints_len, hq] at KCa KCb
        dsimp only [Later.self, Later.drew, Later.to] at KCa KCb
        have hil : Hid ((ints way).length = q + 1) := Lib.hid (by rw [ints_len]; exact hq)
        have hi8 : (ints way).length + 1 ≤ 1099511627776 := by rw [hil.out]; omega
        have w1 := IntWalk.i64_in (bit w : Int) (by omega)
        have o1 := i64_or gone (bit w) (by omega) (by omega)
        have HXb : Hid (∀ u3 : Later (v3.val.alloc (.cells #[.int .i64 (w : Int)] 3)).drew.heap.size (v3.val.alloc (.cells #[.int .i64 (w : Int)] 3)).drew, Below v3.val.heap.size v3.val u3.val) := Lib.hid (fun u3 => (((Later.self v3.val).alloc (.cells #[.int .i64 (w : Int)] 3)).drew.up u3).below)
        have HXl : Hid (∀ u3 : Later (v3.val.alloc (.cells #[.int .i64 (w : Int)] 3)).drew.heap.size (v3.val.alloc (.cells #[.int .i64 (w : Int)] 3)).drew, u3.val.cell? ⟨v3.val.heap.size, 0, none⟩ = some (.int .i64 (w : Int))) := Lib.hid (fun u3 => by
          have h1 : RowAt1 (v3.val.alloc (.cells #[.int .i64 (w : Int)] 3)).drew v3.val.heap.size 3 (.int .i64 (w : Int)) := heap_alloc_new v3.val _
          exact (h1.keep u3.below).c0)
        have HXs : Hid (v3.val.heap.size ≤ (v3.val.alloc (.cells #[.int .i64 (w : Int)] 3)).drew.heap.size) := Lib.hid (by simp)
        have f0 : v3.val.drew.cell? ⟨bon, 0, none⟩ = some (.func (.func 27) #[] #[.pointer (some ⟨bt, 0, none⟩), .pointer (some ⟨bo, 0, none⟩), .pointer (some ⟨bn, 0, none⟩), .pointer (some ⟨bg, 0, none⟩), .pointer (some ⟨bon, 0, none⟩)]) := qon v3.drew
        have f1 : ∀ y : Later v3.val.heap.size v3.val, y.val.cell? ⟨bon, 0, none⟩ = some (.func (.func 27) #[] #[.pointer (some ⟨bt, 0, none⟩), .pointer (some ⟨bo, 0, none⟩), .pointer (some ⟨bn, 0, none⟩), .pointer (some ⟨bg, 0, none⟩), .pointer (some ⟨bon, 0, none⟩)]) := fun y => qon (v3.up y)
        have f2 : ∀ (y : Later v3.val.heap.size v3.val) (o : Obj), (y.val.alloc o).cell? ⟨bon, 0, none⟩ = some (.func (.func 27) #[] #[.pointer (some ⟨bt, 0, none⟩), .pointer (some ⟨bo, 0, none⟩), .pointer (some ⟨bn, 0, none⟩), .pointer (some ⟨bg, 0, none⟩), .pointer (some ⟨bon, 0, none⟩)]) := fun y o => f1 (y.alloc o)
        have f3 : ∀ y : Later (v3.val.alloc (.cells #[.int .i64 (w : Int)] 3)).drew.heap.size (v3.val.alloc (.cells #[.int .i64 (w : Int)] 3)).drew, y.val.cell? ⟨bon, 0, none⟩ = some (.func (.func 27) #[] #[.pointer (some ⟨bt, 0, none⟩), .pointer (some ⟨bo, 0, none⟩), .pointer (some ⟨bn, 0, none⟩), .pointer (some ⟨bg, 0, none⟩), .pointer (some ⟨bon, 0, none⟩)]) := fun y => f1 (((Later.self v3.val).alloc (.cells #[.int .i64 (w : Int)] 3)).drew.up y)
        have f4 : (v3.val.alloc (.cells #[.int .i64 (w : Int)] 3)).drew.cell? ⟨bon, 0, none⟩ = some (.func (.func 27) #[] #[.pointer (some ⟨bt, 0, none⟩), .pointer (some ⟨bo, 0, none⟩), .pointer (some ⟨bn, 0, none⟩), .pointer (some ⟨bg, 0, none⟩), .pointer (some ⟨bon, 0, none⟩)]) := f3 (Later.self _)
        have KI : Hid (∀ (y : World), Below v3.val.heap.size v3.val y → ∀ (g3 cp3 : Nat), Own v3.val.heap.size y (some ⟨g3, 0, none⟩) cp3 (ints way ++ [(w : Int)]) → Calls Try.prog 27 #[.slice (some ⟨g3, 0, none⟩) ((ints way).length + 1) cp3, .int .i64 ((gone ||| bit w : Nat) : Int), .int .i64 x, .pointer (some ⟨bt, 0, none⟩), .pointer (some ⟨bo, 0, none⟩), .pointer (some ⟨bn, 0, none⟩), .pointer (some ⟨bg, 0, none⟩), .pointer (some ⟨bon, 0, none⟩)] y (fun e w' => ∃ (v' : Aside B bo W) (ad' : Option Addr) (cp' : Nat), w' = v'.val ∧ Kept bo (ownBlk ad2) v3.val v'.val ∧ NewB v3.val (ownBlk ad2) (ownBlk ad') ∧ ((∃ r, onF n (edB es) tw (waysF n (edB es) tw ls) fuel (way ++ [w]) (gone ||| bit w) = some r ∧ e = .returned (.bool true) ∧ OutW B bo v'.val ad' cp' (pre ++ r)) ∨ (onF n (edB es) tw (waysF n (edB es) tw ls) fuel (way ++ [w]) (gone ||| bit w) = none ∧ e = .returned (.bool false) ∧ OutW B bo v'.val ad' cp' pre)))) := Lib.hid (fun y hy g3 cp3 hown => by
          have hO4 := HO3.out.keep hy
          have hown2 : Own v3.val.heap.size y (some ⟨g3, 0, none⟩) cp3 (ints (way ++ [w])) := by rw [ints_snoc]; exact hown
          have := IH.out (v3.past y (hy.mono v3.base)) (way ++ [w]) g3 0 cp3 (gone ||| bit w) pre ad2 cp2 hO4 (row_of_own HO3.out hown2) (by simp) (by rw [List.length_append]; simp; omega) (by rw [HLn.out]; exact hwn) hgw hfu2 hpre
          rw [List.length_append, show way.length + [w].length = (ints way).length + 1 by rw [ints_len]; rfl] at this
          refine this.mono ?_
          rintro e _ ⟨v', ad', cp', rfl, hk, hn, h⟩
          have hky : Kept bo (ownBlk ad2) v3.val y := Kept.of hy
          exact ⟨v', ad', cp', rfl, hky.trans (NewB.refl _ _) hk, hn.elim .inl (fun ⟨g, e1, e2⟩ => .inr ⟨g, e1, Nat.le_trans hky.size e2⟩), h⟩)
        generalize hrr : onF n (edB es) tw (waysF n (edB es) tw ls) fuel (way ++ [w]) (gone ||| bit w) = rr at *
        clear hrr
        have KI2 : Hid (∀ (y : World), Below v3.val.heap.size v3.val y → ∀ (g3 cp3 : Nat), Own v3.val.heap.size y (some ⟨g3, 0, none⟩) cp3 (ints way ++ [(w : Int)]) → Calls Try.prog 27 #[.slice (some ⟨g3, 0, none⟩) ((ints way).length + 1) cp3, .int .i64 ((gone ||| bit w : Nat) : Int), .int .i64 x, .pointer (some ⟨bt, 0, none⟩), .pointer (some ⟨bo, 0, none⟩), .pointer (some ⟨bn, 0, none⟩), .pointer (some ⟨bg, 0, none⟩), .pointer (some ⟨bon, 0, none⟩)] y (fun e w' => ∃ (bb : Bool) (v' : Aside B bo W) (ad' : Option Addr) (cp' : Nat), e = .returned (.bool bb) ∧ w' = v'.val ∧ WyAns B bo W v3 ad2 rr pre bb v' ad' cp')) := Lib.hid (fun y hy g3 cp3 hown => (KI.out y hy g3 cp3 hown).mono (by
          rintro e _ ⟨v', ad', cp', rfl, hk, hn, h⟩
          rcases h with ⟨r', h1, h2, h3⟩ | ⟨h1, h2, h3⟩
          · exact ⟨true, v', ad', cp', h2, rfl, hk, hn, .inl ⟨rfl, r', h1, h3⟩⟩
          · exact ⟨false, v', ad', cp', h2, rfl, hk, hn, .inr ⟨rfl, h1, h3⟩⟩))
        have HYes2 : Hid (∀ r, rr = some r → res = some r) := Lib.hid (fun r h => HYes.out r (HSw2.out.trans h))
        have HNx3 : Hid (rr = none → ∀ j, j < w + 1 → stp j = none) := Lib.hid (fun h => HNx2.out (HSw2.out.trans h))
        clear KI HYes HNx2 HSw2
        go_region_law (first | ((refine step_push (B := v3.val.heap.size) (W := v3.val) (w := y2.val) y2.below y2.size (by rfl) _ _ (by rfl) (ints way) adC cpC (w : Int) (by rfl) hC (by rfl) hi8 ?_; intro u3 ad3 cp3 hown; obtain ⟨g3, rfl⟩ := own_some hown (by simp))) | ((refine step_pushG (B := (v3.val.alloc (.cells #[.int .i64 (w : Int)] 3)).drew.heap.size) (W := (v3.val.alloc (.cells #[.int .i64 (w : Int)] 3)).drew) (w := y2.val) y2.below y2.size (by rfl) _ _ (by rfl) (ints way) adC cpC (w : Int) v3.val.heap.size 1 (by rfl) hC (by rfl) (HXl.out y2) hi8 ?_; intro u3 ad3 cp3 hown; obtain ⟨g3, rfl⟩ := own_some hown (by simp))) | (go_simp; go_at_call 28; (with_reducible refine (KCa.out).mono ?_); rintro e _ ⟨_, rfl, ⟨adC, cpC, rfl, hC⟩, y2, rfl⟩) | (go_simp; go_at_call 28; (with_reducible refine (KCb.out).mono ?_); rintro e _ ⟨_, rfl, ⟨adC, cpC, rfl, hC⟩, y2, rfl⟩) | (go_simp; go_at_call 27; (with_reducible refine (KI2.out u3.val u3.below g3 cp3 hown).mono ?_); rintro e _ ⟨bb, v4, ad4, cp4, rfl, rfl, hA4⟩) | (go_simp; go_at_call 27; (with_reducible refine (KI2.out u3.val (HXb.out u3) g3 cp3 (hown.mono HXs.out)).mono ?_); rintro e _ ⟨bb, v4, ad4, cp4, rfl, rfl, hA4⟩))
        all_goals
          obtain ⟨hk4, hn4, h4⟩ := hA4
          rcases h4 with ⟨rfl, r, h5, hO4⟩ | ⟨rfl, h5, hO4⟩
          · have hr := HYes2.out r h5
            subst hr
            clear HYes2 HNx3 h5
            go_wp2
            go_ret
            exact ⟨v4, ad4, cp4, rfl, HK3.out.trans HN2.out hk4, NewB.trans HK3.out.size HN2.out hn4, .inl ⟨r, rfl, rfl, hO4⟩⟩
          · have HN3 := Lib.hid (HNx3.out h5)
            clear HYes2 HNx3 h5
            go_wp2
            go_roundw
            case rel => exact ⟨w+1, v4, ad4, cp4, by omega, by go_num, rfl, Lib.hid hO4, Lib.hid (HR3.out.kept hk4 hn4), Lib.hid (HK3.out.trans HN2.out hk4), Lib.hid (NewB.trans HK3.out.size HN2.out hn4), HN3⟩
            case measure => simp [intOf]; omega
    · have hwe : w = n := by omega
      subst hwe
      have hr : res = none := by rw [HEl.out]; exact fstTo_none HNo.out
      subst hr
      go_wp2
      go_ret
      exact ⟨v2, ad2, cp2, rfl, HK2.out, HN2.out, .inr ⟨rfl, rfl, HO2.out⟩⟩

end Go.Proofs.Ytnhpefcjgaimeaa
