
/-
  slices.Clone of rows; a matrix under a struct that lies anywhere.
-/
import Derived.Test.YtffnpokceomncaaFmF
import Derived.Test.YtffnpokceomncaaHgPl
import Derived.Test.YtffnpokceomncaaKrPl
namespace Go.Proofs.Ytffnpokceomncaa
open Go.RowKit
set_option linter.unusedVariables false

/-- the struct in block go, the rows' slices in block g, none of these blocks the same -/
structure BoxM (b m go g gc N C : Nat) (p c : Int) (w : World) (hd : Nat → Option Addr) (r cp : Nat → Nat) (M : Nat → Nat → Int) : Prop where
  mx : Mtx b w (some ⟨g, 0, none⟩) gc N C hd r cp M
  box : RowL w go 24 [.int .i64 p, .int .i64 c, .slice (some ⟨g, 0, none⟩) N gc]
  pos : 0 < C
  gne : b ≤ g ∧ g ≠ go ∧ g < m
  rne : ∀ i, i < N → r i ≠ go ∧ r i < m
  golt : go < m
namespace BoxM
variable {b m go g gc N C : Nat} {p c : Int} {w : World} {hd : Nat → Option Addr} {r cp : Nat → Nat} {M : Nat → Nat → Int}
theorem keep {w' : World} (h : BoxM b m go g gc N C p c w hd r cp M) (hb : Below w.heap.size w w') : BoxM b m go g gc N C p c w' hd r cp M := ⟨h.mx.keep hb, h.box.keep hb, h.pos, h.gne, h.rne, h.golt⟩
theorem congr {M' : Nat → Nat → Int} (h : BoxM b m go g gc N C p c w hd r cp M) (e : ∀ i j, i < N → j < C → M i j = M' i j) : BoxM b m go g gc N C p c w hd r cp M' := ⟨h.mx.congr e, h.box, h.pos, h.gne, h.rne, h.golt⟩
theorem c0 (h : BoxM b m go g gc N C p c w hd r cp M) : w.cell? ⟨go, 0, none⟩ = some (.int .i64 p) := h.box.cell rfl
theorem c1 (h : BoxM b m go g gc N C p c w hd r cp M) : w.cell? ⟨go, 1, none⟩ = some (.int .i64 c) := h.box.cell rfl
theorem c2 (h : BoxM b m go g gc N C p c w hd r cp M) : w.cell? ⟨go, 2, none⟩ = some (.slice (some ⟨g, 0, none⟩) N gc) := h.box.cell rfl
theorem t (h : BoxM b m go g gc N C p c w hd r cp M) {i : Nat} (hi : i < N) : w.cell? ⟨g, i, none⟩ = some (.slice (some ⟨r i, 0, none⟩) C (cp i)) := by rw [h.mx.tcell hi, h.mx.hdr h.pos i hi]
theorem e (h : BoxM b m go g gc N C p c w hd r cp M) {i j : Nat} (hi : i < N) (hj : j < C) : w.cell? ⟨r i, j, none⟩ = some (.int .i64 (M i j)) := h.mx.cell hi hj
theorem fz (h : BoxM b m go g gc N C p c w hd r cp M) {i : Nat} (hi : i < N) (j : Nat) : w.frozen? ⟨r i, j, none⟩ = false := h.mx.fz h.pos hi j
theorem rb (h : BoxM b m go g gc N C p c w hd r cp M) {i : Nat} (hi : i < N) : b ≤ r i := (h.mx.rlt h.pos hi).1
theorem set (h : BoxM b m go g gc N C p c w hd r cp M) {a : Nat} (ha : a < N) (q : Nat) (x : Int) : BoxM b m go g gc N C p c (w.setCell ⟨r a, q, none⟩ (.int .i64 x)) hd r cp (setM M a q x) :=
  ⟨h.mx.set h.pos ha q x, (Below.heap_setCell _ _ _ _ (fun e => (h.rne a ha).1 e.symm)).trans h.box, h.pos, h.gne, h.rne, h.golt⟩
theorem swap (h : BoxM b m go g gc N C p c w hd r cp M) {i k : Nat} (hi : i < N) (hk : k < N) : BoxM b m go g gc N C p c ((w.setCell ⟨g, i, none⟩ (.slice (some ⟨r k, 0, none⟩) C (cp k))).setCell ⟨g, k, none⟩ (.slice (some ⟨r i, 0, none⟩) C (cp i))) (fun x => hd (swp i k x)) (fun x => r (swp i k x)) (fun x => cp (swp i k x)) (fun x => M (swp i k x)) := by
  have h1 := h.mx.swap hi hk
  rw [h.mx.hdr h.pos i hi, h.mx.hdr h.pos k hk] at h1
  exact ⟨h1, (Below.heap_setCell _ _ _ _ (fun e => h.gne.2.1 e.symm)).trans ((Below.heap_setCell _ _ _ _ (fun e => h.gne.2.1 e.symm)).trans h.box), h.pos, h.gne, fun x hx => h.rne _ (swp_lt hi hk hx), h.golt⟩
theorem keep_at {w' : World} (h : BoxM b m go g gc N C p c w hd r cp M) (hb : Below m w w') : BoxM b m go g gc N C p c w' hd r cp M := ⟨h.mx.keep_at hb (fun _ e => by cases e; exact h.gne.2.2) (fun i hi _ => (h.rne i hi).2), h.box.keep_at hb h.golt, h.pos, h.gne, h.rne, h.golt⟩
end BoxM

/-- the first rows, under a new row of slices -/
theorem Mtx.top_new {b : Nat} {w w' : World} {ad ad' : Option Addr} {gc gc' N n C : Nat} {hd : Nat → Option Addr} {r cp : Nat → Nat} {M : Nat → Nat → Int} (h : Mtx b w ad gc N C hd r cp M) (hn : n ≤ N) (hb : Below w.heap.size w w') (ht : w'.ownsRow b 35 1 (.slice ad' n gc') n ((List.range n).map (fun i => Value.slice (hd i) C (cp i)))) (hnew : 0 < n → ∀ g, ad' = some ⟨g, 0, none⟩ → w.heap.size ≤ g) : Mtx b w' ad' gc' n C hd r cp M where
  top := ht
  hdr := fun hC i hi => h.hdr hC i (by omega)
  row := fun hC i hi => (h.row hC i (by omega)).keep hb
  ne := fun hC i hi g hg e => by
    have h1 := (h.rlt hC (show i < N by omega)).2
    have h2 := hnew (by omega) g hg
    omega
  inj := fun hC i j hi hj => h.inj hC i j (by omega) (by omega)
  nil := fun i hi => h.nil i (by omega)

set_option maxRecDepth 100000 in
set_option maxHeartbeats 2000000 in
theorem c_cloneRows {b : Nat} (w : World) (g gc N n C : Nat) (hd : Nat → Option Addr) (r cp : Nat → Nat) (M : Nat → Nat → Int) (h : Mtx b w (some ⟨g, 0, none⟩) gc N C hd r cp M) (hb : b ≤ w.heap.size) (hn : n ≤ N) (hN : N ≤ 8) (cap : Nat) :
    Calls Try.prog 58 #[.slice (some ⟨g, 0, none⟩) n cap] w (RetP w.heap.size w (fun v w' => ∃ g' gc', v = .slice (some ⟨g', 0, none⟩) n gc' ∧ Mtx b w' (some ⟨g', 0, none⟩) gc' n C hd r cp M ∧ w.heap.size ≤ g')) := by
  have heq : ∀ w : World, (binOp .eql 22 (.slice (some ⟨g, 0, none⟩) n cap) (.slice none 0 0)).run Try.prog w = .ok (.bool false) w := fun w => by simp only [binOp]; simp [run_equal_slice_nil w 22 35 (some ⟨g, 0, none⟩) n cap Try.underlying22]
  obtain ⟨i0, hi, hz0, hz1, hz2⟩ := info_parts info_row
  have hal : Below w.heap.size w (w.alloc (.cells #[] 35)) := (Below.refl _ _).alloc (Nat.le_refl _) _
  have hsz : (w.alloc (.cells #[] 35)).heap.size = w.heap.size + 1 := by simp
  have HO : Hid ((w.alloc (.cells #[] 35)).ownsRow w.heap.size 35 1 (.slice (some ⟨w.heap.size, 0, none⟩) 0 0) 0 []) := Lib.hid ⟨rfl, .inr ⟨w.heap.size, 0, #[], rfl, Nat.le_refl _, heap_alloc_new _ _, by simp, by simp [maxLen], by simp, by simp⟩⟩
  have HM := Lib.hid h
  have HA := Lib.hid hal
  have HS := Lib.hid hsz
  have HN : Hid (∀ j u, ((List.range n).map (fun i => Value.slice (hd i) C (cp i)))[j]? = some u → (w.alloc (.cells #[] 35)).cell? ((⟨g, 0, none⟩ : Addr).add j) = some u) := Lib.hid (fun j u hj => by
    have e : (⟨g, 0, none⟩ : Addr).add j = ⟨g, j, none⟩ := by unfold Addr.add; split <;> simp_all
    have hjn : j < n := by
      have := (List.getElem?_eq_some_iff.1 hj).1
      simpa using this
    rw [e, (h.keep hal).tcell (show j < N by omega)]
    rw [← hj]
    simp [hjn])
  have HL : Hid (((List.range n).map (fun i => Value.slice (hd i) C (cp i))).length = n * 1) := Lib.hid (by simp)
  have H1 : Hid (∀ u ∈ (List.range n).map (fun i => Value.slice (hd i) C (cp i)), u.oneCell' = true) := Lib.hid (fun u hu => by
    obtain ⟨i, _, rfl⟩ := List.mem_map.1 hu
    rfl)
  clear h hal hsz
  go_enter Try.func58, Try.ntmps58
  go_wp2_with (first | (at_builtin; refine wpList_append_own _ rfl _ _ 22 rfl w.heap.size 35 i0 (.slice none 0 0) 1 24 Try.underlying22 hi hz0 hz1 hz2 rfl (by decide) _ 0 [] rfl HO.out ⟨g, 0, none⟩ n cap ((List.range n).map (fun i => Value.slice (hd i) C (cp i))) rfl HL.out HN.out H1.out (by simp only [maxLen]; omega) (by omega) (by rw [HS.out]; omega) ?_; intro v' w' h2 h3 h4) | fail)
  have hbel : Below w.heap.size w w' := HA.out.grown h3 (by have := HS.out; omega) (fun k hk => (World.ownsRow.lt HO.out k hk).1)
  go_ret
  have hform : ∃ g' c', v' = .slice (some ⟨g', 0, none⟩) n c' := by
    rcases h2.2 with ⟨e, _⟩ | ⟨g', c', cur, e, _⟩
    · have := h4.1 e
      cases this.1
    · exact ⟨g', c', by rw [e]; simp⟩
  obtain ⟨g', c', rfl⟩ := hform
  have hlt := (World.ownsRow.lt h2 g' rfl).1
  refine RetP.of ⟨⟨w', hbel, hbel.size⟩, rfl⟩ ⟨g', c', rfl, HM.out.top_new hn hbel ?_ (fun _ g2 e => by cases e; exact hlt), hlt⟩
  simp only [Nat.zero_add, List.nil_append] at h2
  exact World.ownsRow.mono h2 hb

set_option maxRecDepth 100000 in
theorem c_cloneRows_nil {B : Nat} {W : World} (u : Later B W) :
    Calls Try.prog 58 #[.slice none 0 0] u.val (Ret B W (.slice none 0 0)) := by
  have heq : ∀ w : World, (binOp .eql 22 (.slice none 0 0) (.slice none 0 0)).run Try.prog w = .ok (.bool true) w := fun w => by simp only [binOp]; simp [run_equal_slice_nil w 22 35 none 0 0 Try.underlying22]
  go_enter Try.func58, Try.ntmps58
  go_wp2
  go_ret
  exact Ret.mk u rfl

end Go.Proofs.Ytffnpokceomncaa
