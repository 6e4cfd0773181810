
/-
  Contracts: BinarySearch over a rising list, has, basis (is a number in a rising list?); of the law's own small helpers, where they answer true: Same, list, one; bad.
  The law's own helpers over matroids, where they answer true: SameMatroid, told.
  Structs of two cells; matroids as results.
-/
import Derived.Test.YtmcffbmhkbijlaaPk03
import Derived.Test.YtmcffbmhkbijlaaPk01
import Derived.Test.YtmcffbmhkbijlaaPk02
import Derived.Laws.ResultCell
namespace Go.Proofs.Ytmcffbmhkbijlaa
open Go.RowKit
set_option linter.unusedVariables false

def rising (l : List Int) : Prop := ∀ i j, i < j → j < l.length → l.getD i 0 < l.getD j 0
theorem famTo.rising {n l} (h : famTo n l l.length) : rising l := by
  intro i j hij hj
  induction j with
  | zero => omega
  | succ j ih =>
    have h1 := (h (j+1) hj).2.2 (by omega)
    simp only [Nat.add_sub_cancel] at h1
    by_cases e : i = j
    · subst e; exact h1
    · have := ih (by omega) (by omega); omega

theorem bs_found {l : List Int} {v : Int} {i : Nat} (hi : i < l.length) (he : l.getD i 0 = v) : v ∈ l := by rw [← he]; simp [hi]
theorem bs_not {l : List Int} {v : Int} {i : Nat} (h1 : ∀ a, a < i → l.getD a 0 < v) (h2 : ∀ a, i ≤ a → a < l.length → v ≤ l.getD a 0) (hs : rising l) (hne : i < l.length → l.getD i 0 ≠ v) : v ∉ l := by
  intro hm
  obtain ⟨a, ha, e⟩ := List.getElem_of_mem hm
  have e' : l.getD a 0 = v := by simp [ha, e]
  by_cases c : a < i
  · have := h1 a c; omega
  · by_cases c2 : a = i
    · subst c2; exact hne ha e'
    · have := hs i a (by omega) ha
      have := h2 i (by omega) (by omega)
      omega

/-- what BinarySearch says: some place, and whether it is there -/
def bsPost (l : List Int) (v : Int) (x : Value) (_ : World) : Prop := ∃ i : Int, x = .tuple #[.int .i64 i, .bool (decide (v ∈ l))]
theorem bsPost.mk {l : List Int} {v i : Int} {b : Bool} {w : World} (h : b = decide (v ∈ l)) : bsPost l v (.tuple #[.int .i64 i, .bool b]) w := ⟨i, by rw [h]⟩

set_option maxHeartbeats 400000 in
theorem c_isNaN {B : Nat} {W : World} (u : Later B W) (x : Int) : Calls Try.prog 50 #[.int .i64 x] u.val (Ret B W (.bool false)) := by
  go_enter Try.func50, Try.ntmps50
  go_wp2
  go_ret
  exact Ret.mk u (vbool (by simp))
set_option maxHeartbeats 400000 in
theorem c_cmpIsNaN {B : Nat} {W : World} (u : Later B W) (x : Int) : Calls Try.prog 66 #[.int .i64 x] u.val (Ret B W (.bool false)) := by
  go_enter Try.func66, Try.ntmps66
  go_wp2
  go_ret
  exact Ret.mk u (vbool (by simp))
set_option maxHeartbeats 400000 in
theorem c_cmpLess {B : Nat} {W : World} (u : Later B W) (x y : Int) : Calls Try.prog 49 #[.int .i64 x, .int .i64 y] u.val (Ret B W (.bool (decide (x < y)))) := by
  have H := Lib.hid (fun (u : Later B W) x => c_cmpIsNaN u x)
  go_enter Try.func49, Try.ntmps49
  go_wp2_with (go_at_call 66; refine (H.out u _).mono ?_; rintro e _ ⟨rfl, v, rfl⟩)
  go_ret
  exact Ret.mk _ rfl

set_option maxHeartbeats 1000000 in
theorem c_bsearch {B : Nat} {W : World} (u : Later B W) (l : List Int) (v : Int) (a : Option Addr) (cap : Nat) (h : IntsAt B W a l) (hlen : l.length ≤ 4611686018427387904) (hs : rising l) :
    Calls Try.prog 21 #[.slice a l.length cap, .int .i64 v] u.val (RetP B W (bsPost l v)) := by
  have HI := Lib.hid h; clear h
  have HS := Lib.hid hs; clear hs
  go_enter Try.func21, Try.ntmps21
  go_wp2
  go_loopw [7, 8] (fun i j wr => ∃ (p q : Nat) (u : Later B W), p ≤ q ∧ q ≤ l.length ∧ i = .int .i64 p ∧ j = .int .i64 q ∧ wr = u.val ∧ Hid (∀ a, a < p → l.getD a 0 < v) ∧ Hid (∀ a, q ≤ a → a < l.length → v ≤ l.getD a 0)) (fun i j _ => (intOf j - intOf i).toNat)
  case atStart => exact ⟨0, l.length, u, by omega, by omega, rfl, rfl, rfl, by intro i hi; omega, by intro i hi; omega⟩
  case round =>
    obtain ⟨p, q, u, hpq, hq, rfl, rfl, rfl, H1, H2⟩ := hrel
    by_cases hlt : p < q
    · obtain ⟨b, off, rfl, hb, hc⟩ := HI.out.at (k := p) (by omega)
      have c0 : u.val.cell? ⟨b, off + (p + q) / 2, none⟩ = some (.int .i64 (l.getD ((p + q) / 2) 0)) := hc u ((p + q) / 2) (by omega)
      have H3 : Hid (l.getD ((p + q) / 2) 0 < v → ∀ a, a < (p + q) / 2 + 1 → l.getD a 0 < v) := fun hx a ha => by
        by_cases e : a = (p + q) / 2
        · rw [e]; exact hx
        · have := HS.out a ((p + q) / 2) (by omega) (by omega); omega
      have H4 : Hid (v ≤ l.getD ((p + q) / 2) 0 → ∀ a, (p + q) / 2 ≤ a → a < l.length → v ≤ l.getD a 0) := fun hx a ha hal => by
        by_cases e : a = (p + q) / 2
        · rw [e]; exact hx
        · have := HS.out ((p + q) / 2) a (by omega) (by omega); omega
      generalize l.getD ((p + q) / 2) 0 = x at *
      clear hc
      have H := Lib.hid (c_cmpLess u x v)
      rcases ilt x v with ⟨g1, d1⟩ | ⟨g1, d1⟩
      · go_wp2_with (go_at_call 49; refine H.out.mono ?_; rintro e _ ⟨rfl, u1, rfl⟩)
        go_roundw
        case rel => exact ⟨(p + q) / 2 + 1, q, u1, by omega, by omega, by go_num, rfl, rfl, H3.out g1, H2⟩
        case measure => simp [intOf]; omega
      · go_wp2_with (go_at_call 49; refine H.out.mono ?_; rintro e _ ⟨rfl, u1, rfl⟩)
        go_roundw
        case rel => exact ⟨p, (p + q) / 2, u1, by omega, by omega, rfl, by go_num, rfl, H1, H4.out g1⟩
        case measure => simp [intOf]; omega
    · have e : p = q := by omega
      subst e
      have HN := Lib.hid (fun (u : Later B W) x => c_isNaN u x)
      rcases nlt p l.length with ⟨g1, d1⟩ | ⟨g1, d1⟩
      · obtain ⟨b, off, rfl, hb, hc⟩ := HI.out.at (k := p) (by omega)
        have c0 : ∀ u : Later B W, u.val.cell? ⟨b, off + p, none⟩ = some (.int .i64 (l.getD p 0)) := fun u => hc u p g1
        have H3 := Lib.hid (fun he => bs_found (v := v) g1 he)
        have H4 := Lib.hid (fun hne => bs_not H1.out H2.out HS.out (fun _ => hne))
        generalize l.getD p 0 = x at *
        clear hc
        rcases ieq x v with ⟨g2, d2, _⟩ | ⟨g2, d2, _⟩
        · have g3 : v ∈ l := H3.out g2
          subst g2
          go_wp2_with (go_at_call 50; refine (HN.out _ _).mono ?_; rintro e _ ⟨rfl, u1, rfl⟩)
          go_ret2
          exact RetP.mk _ (bsPost.mk (dec_true g3))
        · have g3 : v ∉ l := H4.out g2
          go_wp2_with (go_at_call 50; refine (HN.out _ _).mono ?_; rintro e _ ⟨rfl, u1, rfl⟩)
          go_ret2
          exact RetP.mk _ (bsPost.mk (dec_false g3))
      · have g3 : v ∉ l := bs_not H1.out H2.out HS.out (fun h => by omega)
        go_wp2_with (go_at_call 50; refine (HN.out _ _).mono ?_; rintro e _ ⟨rfl, u1, rfl⟩)
        go_ret2
        exact RetP.mk _ (bsPost.mk (dec_false g3))


/-! ### the law's own helpers, where they answer true -/
set_option maxHeartbeats 1000000 in
theorem c_same {B : Nat} {W : World} (u : Later B W) (l : List Int) (a b : Option Addr) (ca cb : Nat) (ha : IntsAt B W a l) (hb : IntsAt B W b l) (hlen : l.length ≤ 4611686018427387904) :
    Calls Try.prog 63 #[.slice a l.length ca, .slice b l.length cb] u.val (Ret B W (.bool true)) := by
  have HA := Lib.hid ha; have HB := Lib.hid hb; clear ha hb
  go_enter Try.func63, Try.ntmps63
  go_wp2
  go_loopw [13] (fun i wr => ∃ (k : Nat) (u : Later B W), k ≤ l.length ∧ i = .int .i64 k ∧ wr = u.val) (fun i _ => l.length - (intOf i).toNat)
  case atStart => exact ⟨0, u, by omega, rfl, rfl⟩
  case round =>
    obtain ⟨k, u, hk, rfl, rfl⟩ := hrel
    by_cases hlt : k < l.length
    · obtain ⟨p, off, rfl, hp, hc⟩ := HA.out.at hlt
      obtain ⟨q, off', rfl, hq, hc'⟩ := HB.out.at hlt
      have c0 : ∀ u : Later B W, u.val.cell? ⟨p, off + k, none⟩ = some (.int .i64 (l.getD k 0)) := fun u => hc u k hlt
      have c1 : ∀ u : Later B W, u.val.cell? ⟨q, off' + k, none⟩ = some (.int .i64 (l.getD k 0)) := fun u => hc' u k hlt
      generalize l.getD k 0 = x at *
      clear hc hc'
      go_wp2
      refine wp_region_later u (by kernel_rfl) (by kernel_rfl) (fun _ => ?_)
      repeat (first | go_big_quiet_step ((fail)) | (refine wpQuiet_step (fun K hK => ?_); go_simp; refine ⟨_, fun _ => rfl, ?_⟩; refine hK _ ?_; clear hK K))
      refine wpQuiet_nil ?_
      intro u
      go_wp2
      go_roundw
      case rel => exact ⟨k+1, u, by omega, by go_num, rfl⟩
      case measure => simp [intOf]; omega
    · go_wp2
      go_ret
      exact Ret.mk u rfl

set_option maxHeartbeats 400000 in
theorem c_bad {B : Nat} {W : World} (u : Later B W) (ok : Bool) (e : Int) : Calls Try.prog 4 #[.bool ok, .int .i64 e] u.val (Ret B W (.int .i64 (errno ok e))) := by
  cases ok
  all_goals
    go_enter Try.func4, Try.ntmps4
    go_wp2
    go_ret
    exact Ret.mk u rfl

end Go.Proofs.Ytmcffbmhkbijlaa

namespace Go.Proofs.Ytmcffbmhkbijlaa
open Go.RowKit
set_option linter.unusedVariables false

set_option maxRecDepth 100000 in
set_option maxHeartbeats 1000000 in
theorem c_sameMatroid {B : Nat} {W : World} (u : Later B W) (n : Int) (l : List Int) (a b : Option Addr) (ca cb : Nat) (ha : IntsAt B W a l) (hb : IntsAt B W b l) (hlen : l.length ≤ 4611686018427387904) :
    Calls Try.prog 44 #[.agg #[.int .i64 n, .slice a l.length ca], .agg #[.int .i64 n, .slice b l.length cb]] u.val (Ret B W (.bool true)) := by
  have H := Lib.hid (fun o1 o2 => c_same ((u.alloc o1).alloc o2) l a b ca cb ha hb hlen)
  have H2 : Hid (∀ o1 o2, Calls Try.prog 63 #[.slice a l.length ca, .slice b l.length cb] ((u.val.alloc o1).alloc o2) (Ret B W (.bool true))) := H
  clear ha hb H
  go_enter Try.func44, Try.ntmps44
  go_wp2_with (first | (go_at_call 63; refine (H2.out _ _).mono ?_; rintro e _ ⟨rfl, v1, rfl⟩))
  go_ret
  exact Ret.mk _ rfl

set_option maxRecDepth 100000 in
set_option maxHeartbeats 1000000 in
theorem c_told {B : Nat} {W : World} (u : Later B W) (n n' : Int) (l l' : List Int) (a b : Option Addr) (ca cb : Nat) (e f : Int) (ha : IntsAt B W a l) (hb : IntsAt B W b l') (hlen : l.length ≤ 4611686018427387904) (he : e = f) (h : if f = 0 then n = n' ∧ l = l' else n = 0 ∧ l = []) :
    Calls Try.prog 14 #[.agg #[.int .i64 n, .slice a l.length ca], .int .i64 e, .agg #[.int .i64 n', .slice b l'.length cb], .int .i64 f] u.val (Ret B W (.bool true)) := by
  subst he
  rcases ieq e 0 with ⟨g1, d1, d2⟩ | ⟨g1, d1, d2⟩
  · rw [if_pos g1] at h
    obtain ⟨rfl, rfl⟩ := h
    subst g1
    have H := Lib.hid (fun o1 o2 => c_sameMatroid ((u.alloc o1).alloc o2) n l a b ca cb ha hb hlen)
    have H2 : Hid (∀ o1 o2, Calls Try.prog 44 #[.agg #[.int .i64 n, .slice a l.length ca], .agg #[.int .i64 n, .slice b l.length cb]] ((u.val.alloc o1).alloc o2) (Ret B W (.bool true))) := H
    clear ha hb H
    go_enter Try.func14, Try.ntmps14
    go_wp2_with (first | (go_at_call 44; refine (H2.out _ _).mono ?_; rintro e _ ⟨rfl, v1, rfl⟩))
    go_ret
    exact Ret.mk _ rfl
  · rw [if_neg g1] at h
    obtain ⟨rfl, rfl⟩ := h
    have HU : Hid (∀ o1 o2, ∃ w : Later B W, w.val = (u.val.alloc o1).alloc o2) := Lib.hid (fun o1 o2 => ⟨(u.alloc o1).alloc o2, rfl⟩)
    clear ha hb
    go_enter Try.func14, Try.ntmps14
    go_wp2
    go_ret
    exact Ret.of (HU.out _ _) (vbool (by simp))

end Go.Proofs.Ytmcffbmhkbijlaa

namespace Go.Proofs.Ytmcffbmhkbijlaa
open Go.RowKit
set_option linter.unusedVariables false

theorem boxed_cell (w : World) (v : Value) (t : TypeId) (o : Obj) (x : Later ((w.alloc (.cells #[v] t)).alloc o).heap.size ((w.alloc (.cells #[v] t)).alloc o)) : x.val.cell? ⟨w.heap.size, 0, none⟩ = some v := by
  rw [x.cell (by simp; omega)]
  rw [((Below.refl (w.heap.size + 1) (w.alloc (.cells #[v] t))).alloc (by simp) o).cell (p := ⟨w.heap.size, 0, none⟩) (by simp)]
  exact cell_one_new w v t 0 _ rfl

/-- a struct of two cells in block g -/
def Two (w : World) (g : Nat) (t : TypeId) (a b : Value) : Prop := w.heap[g]? = some (.cells #[a, b] t (0, 0))
namespace Two
variable {w : World} {g : Nat} {t : TypeId} {a b : Value}
theorem c0 (h : Two w g t a b) : w.cell? ⟨g, 0, none⟩ = some a := by rw [cell_of_row w g 0 _ _ _ h]; rfl
theorem c1 (h : Two w g t a b) : w.cell? ⟨g, 1, none⟩ = some b := by rw [cell_of_row w g 1 _ _ _ h]; rfl
theorem fz (h : Two w g t a b) (i : Nat) : w.frozen? ⟨g, i, none⟩ = false := by
  unfold World.frozen?
  rw [h]; simp
theorem lt (h : Two w g t a b) : g < w.heap.size := by
  have h' : w.heap[g]? = _ := h
  exact (Array.getElem?_eq_some_iff.1 h').1
theorem keep {w' : World} (h : Two w g t a b) (hb : Below w.heap.size w w') : Two w' g t a b := by
  show w'.heap[g]? = _
  rw [hb.block g h.lt]; exact h
theorem new (w : World) (t : TypeId) (a b : Value) : Two (w.alloc (.cells #[a, b] t)) w.heap.size t a b := heap_alloc_new w _
theorem set0 (h : Two w g t a b) (x : Value) : Two (w.setCell ⟨g, 0, none⟩ x) g t x b := by
  have h' : w.heap[g]? = _ := h
  simp only [Two, World.setCell, Array.getElem?_modify, h']
  simp
theorem set1 (h : Two w g t a b) (x : Value) : Two (w.setCell ⟨g, 1, none⟩ x) g t a x := by
  have h' : w.heap[g]? = _ := h
  simp only [Two, World.setCell, Array.getElem?_modify, h']
  simp
end Two
/-- a row of the call's own is not touched by a write to an older block -/
theorem Own.set {B : Nat} {w : World} {ad : Option Addr} {cap : Nat} {xs : List Int} (h : Own B w ad cap xs) {g i : Nat} (hg : g < B) (x : Value) : Own B (w.setCell ⟨g, i, none⟩ x) ad cap xs := by
  refine h.kept (row := some g) ⟨rfl, rfl, rfl, by simp, fun k hk hne => Below.heap_setCell _ _ _ _ (by rintro rfl; exact hne rfl)⟩ ?_
  cases hb : (Value.slice ad xs.length cap).ownBlock with
  | none => exact .inl rfl
  | some k =>
    right
    have := (World.ownsRow.lt h k hb).1
    rintro e
    cases e
    omega

/-- a result: a matroid, its bases a list of sets -/
def MatV (n : Int) (xs : List Int) (v : Value) (w : World) : Prop := ∃ b, v = .agg #[.int .i64 n, b] ∧ Reads w.heap.size w b xs
def RetMat (B : Nat) (W : World) (n : Int) (xs : List Int) : Ending → World → Prop := RetP B W (MatV n xs)

theorem Own.mono {B B' : Nat} {w : World} {ad : Option Addr} {cap : Nat} {xs : List Int} (h : Own B w ad cap xs) (hb : B' ≤ B) : Own B' w ad cap xs := by
  obtain ⟨h1, h2⟩ := h
  refine ⟨h1, ?_⟩
  rcases h2 with h2 | ⟨g, c, cur, e, hB, r⟩
  · exact .inl h2
  · exact .inr ⟨g, c, cur, e, Nat.le_trans hb hB, r⟩
/-- a result: a matroid whose bases lie in a row of the call's own, at blocks from B on -/
def MatO (B : Nat) (n : Int) (xs : List Int) (v : Value) (w : World) : Prop := ∃ ad cp, v = .agg #[.int .i64 n, .slice ad xs.length cp] ∧ Own B w ad cp xs
theorem MatO.v {B : Nat} {n : Int} {xs : List Int} {v : Value} {w : World} (h : MatO B n xs v w) : MatV n xs v w := by
  obtain ⟨ad, cp, e, ho⟩ := h
  exact ⟨_, e, Reads.of_own ho⟩

theorem Two.keep_at {w w' : World} {g B : Nat} {t : TypeId} {a b : Value} (h : Two w g t a b) (hb : Below B w w') (hg : g < B) : Two w' g t a b := by
  show w'.heap[g]? = _
  rw [hb.block g hg]; exact h

theorem results_two {fn : Func} {p x : Tmp} {ty : TypeId} (h : fn.results = #[.cell p ty, .tmp x]) {P : Program} (tmps : Array Value) (w : World) (g : Nat) {t : TypeId} {a b : Value} {fs : Array Field}
    (hp : tmps.getD p undef = .pointer (some ⟨g, 0, none⟩)) (hT : Two w g t a b)
    (hu : P.underlying ty = some (.struct fs)) (hi : (P.info? ty).map (·.size) = some 2) :
    (results fn tmps).run P w = .ok (.tuple #[.agg #[a, b], tmps.getD x undef]) w := by
  have hl := run_loadVar_row (P := P) w g t ty #[a, b] (0, 0) _ hT hu rfl hi
  rw [results_cell_tmp h, hp]
  simp [asAddr, Result.andThen, hl]

end Go.Proofs.Ytmcffbmhkbijlaa
