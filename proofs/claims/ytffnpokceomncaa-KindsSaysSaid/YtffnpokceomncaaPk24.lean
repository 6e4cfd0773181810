
/-
  Rows that are nought with reduced rows, plainly: they are, and no one hangs on others. No program in sight.
  slices.Clone of rows; a matrix under a struct that lies anywhere.
  field.reduced.
-/
import Derived.Test.YtffnpokceomncaaPk20
import Derived.Test.YtffnpokceomncaaPk23
namespace Go.Proofs.Ytffnpokceomncaa
set_option linter.unusedVariables false

/-- what two rows make -/
def dot (C : Nat) (v w : Nat → Int) : Int := isum (fun j => v j * w j) C
theorem dot_cg {p C : Nat} {v w v' w' : Nat → Int} (h1 : ∀ j, j < C → Cg p (v j) (v' j)) (h2 : ∀ j, j < C → Cg p (w j) (w' j)) : Cg p (dot C v w) (dot C v' w') := isum_cg (fun j hj => (h1 j hj).mul (h2 j hj))
theorem dot_sum {C m : Nat} {a : Nat → Int} {R : Nat → Nat → Int} {w : Nat → Int} : dot C (fun j => isum (fun i => a i * R i j) m) w = isum (fun i => a i * dot C (R i) w) m := by
  unfold dot
  have e1 : isum (fun j => isum (fun i => a i * R i j) m * w j) C = isum (fun j => isum (fun i => a i * (R i j * w j)) m) C := isum_congr (fun j _ => by
    rw [Int.mul_comm, ← isum_mul]
    exact isum_congr (fun i _ => by grind))
  rw [e1, isum_swap]
  exact isum_congr (fun i _ => isum_mul _ _ _)
theorem dot_comm (C : Nat) (v w : Nat → Int) : dot C v w = dot C w v := isum_congr (fun j _ => Int.mul_comm _ _)
/-- nought with rows is nought with what they span -/
theorem nought_span {p C m : Nat} {R : Nat → Nat → Int} {v w : Nat → Int} (hv : InSp p C m R v) (h : ∀ i, i < m → Cg p (dot C (R i) w) 0) : Cg p (dot C v w) 0 := by
  obtain ⟨a, ha⟩ := hv
  refine (dot_cg ha (fun j _ => Cg.refl _)).trans ?_
  rw [dot_sum]
  have : Cg p (isum (fun i => a i * dot C (R i) w) m) (isum (fun _ => 0) m) := isum_cg (fun i hi => by
    have := (Cg.refl (a i)).mul (h i hi)
    rwa [Int.mul_zero] at this)
  rwa [isum_zero (fun _ _ => rfl)] at this

/-- the row of a free place -/
def krn (p : Nat) (M : Nat → Nat → Int) (A : List Nat) (c j : Nat) : Int := if j = c then 1 else isum (fun i => if A.getD i 0 = j then ((p : Int) - M i c) % (p : Int) else 0) A.length
section
variable {p C N : Nat} {M0 M : Nat → Nat → Int} {A : List Nat} {cc : Nat}
theorem krn_at (h : RdS p C N M0 M cc A) {c i : Nat} (hi : i < A.length) (hc : ∀ k, k < A.length → A.getD k 0 ≠ c) : krn p M A c (A.getD i 0) = ((p : Int) - M i c) % (p : Int) := by
  unfold krn
  rw [if_neg (hc i hi)]
  have : isum (fun k => if A.getD k 0 = A.getD i 0 then ((p : Int) - M k c) % (p : Int) else 0) A.length = isum (fun k => if k = i then ((p : Int) - M k c) % (p : Int) else 0) A.length := isum_congr (fun k hk => by
    by_cases e : k = i
    · subst e; rw [if_pos rfl, if_pos rfl]
    · rw [if_neg e, if_neg (fun e2 => by
        rcases Nat.lt_or_gt_of_ne e with d | d
        · have := h.rise k i d hi; omega
        · have := h.rise i k d hk; omega)])
  rw [this, isum_pick (g := fun k => ((p : Int) - M k c) % (p : Int)) hi]
theorem krn_free {c j : Nat} (hj : ∀ k, k < A.length → A.getD k 0 ≠ j) : krn p M A c j = if j = c then 1 else 0 := by
  unfold krn
  by_cases e : j = c
  · rw [if_pos e, if_pos e]
  · rw [if_neg e, if_neg e]
    exact isum_zero (fun k hk => if_neg (hj k hk))
theorem krn_small (hp : 2 ≤ p) (h : RdS p C N M0 M cc A) {c : Nat} (hc : ∀ k, k < A.length → A.getD k 0 ≠ c) (j : Nat) : 0 ≤ krn p M A c j ∧ krn p M A c j < p := by
  by_cases e : ∃ i, i < A.length ∧ A.getD i 0 = j
  · obtain ⟨i, hi, rfl⟩ := e
    rw [krn_at h hi hc]
    exact mod_small p (by omega) _
  · rw [krn_free (fun k hk e2 => e ⟨k, hk, e2⟩)]
    split <;> omega
/-- nought with each reduced row -/
theorem krn_row (h : RdS p C N M0 M cc A) (hcc : cc ≤ C) {c : Nat} (hcC : c < C) (hc : ∀ k, k < A.length → A.getD k 0 ≠ c) {i : Nat} (hi : i < A.length) : Cg p (dot C (M i) (krn p M A c)) 0 := by
  have hAC : ∀ k, k < A.length → A.getD k 0 < C := fun k hk => by have := h.at_lt k hk; omega
  have hiN : i < N := by have := h.le; omega
  have e1 : dot C (M i) (krn p M A c) = isum (fun j => (if j = c then M i j else 0) + (if j = A.getD i 0 then M i j * krn p M A c j else 0)) C := isum_congr (fun j hj => by
    by_cases d : j = c
    · subst d
      rw [if_pos rfl, if_neg (fun e => hc i hi e.symm)]
      unfold krn
      rw [if_pos rfl]; omega
    · rw [if_neg d]
      by_cases f : j = A.getD i 0
      · rw [if_pos f]; omega
      · rw [if_neg f]
        by_cases g : ∃ k, k < A.length ∧ A.getD k 0 = j
        · obtain ⟨k, hk, rfl⟩ := g
          have : k ≠ i := fun e => f (by rw [e])
          rw [h.zc k i hk hiN (fun e => this e.symm)]; simp
        · rw [krn_free (fun k hk e2 => g ⟨k, hk, e2⟩), if_neg d]; simp)
  rw [e1, isum_add, isum_pick (g := fun j => M i j) hcC, isum_pick (g := fun j => M i j * krn p M A c j) (hAC i hi), h.one i hi, krn_at h hi hc, Int.one_mul]
  have h2 : Cg p (M i c + ((p : Int) - M i c) % (p : Int)) (M i c + ((p : Int) - M i c)) := (Cg.refl _).add (Cg.mod _)
  rw [show M i c + ((p : Int) - M i c) = p by omega] at h2
  exact h2.trans Cg.p_zero
/-- nought with each row that there was -/
theorem krn_nought (h : RdS p C N M0 M cc A) (hcc : cc ≤ C) (hend : cc = C ∨ A.length = N) {c : Nat} (hcC : c < C) (hc : ∀ k, k < A.length → A.getD k 0 ≠ c) {i : Nat} (hi : i < N) : Cg p (dot C (M0 i) (krn p M A c)) 0 :=
  nought_span (h.eq.bwd i hi) (fun k hk => by
    by_cases d : k < A.length
    · exact krn_row h hcc hcC hc d
    · rcases hend with e | e
      · have h0 : dot C (M k) (krn p M A c) = 0 := isum_zero (fun j hj => by rw [h.below k j (by omega) hk (by omega)]; simp)
        rw [h0]; exact Cg.refl _
      · omega)
/-- no one of them hangs on others -/
theorem krn_indep {F : List Nat} (hF : ∀ i, i < F.length → F.getD i 0 < C ∧ ∀ k, k < A.length → A.getD k 0 ≠ F.getD i 0) (hinj : ∀ i k, i < F.length → k < F.length → F.getD i 0 = F.getD k 0 → i = k) : Indep p C F.length (fun i => krn p M A (F.getD i 0)) := fun a ha i hi => by
  have h1 := ha (F.getD i 0) (hF i hi).1
  have e : isum (fun k => a k * krn p M A (F.getD k 0) (F.getD i 0)) F.length = isum (fun k => if k = i then a k else 0) F.length := isum_congr (fun k hk => by
    rw [krn_free (hF i hi).2]
    by_cases d : k = i
    · subst d; rw [if_pos rfl, if_pos rfl]; omega
    · rw [if_neg d, if_neg (fun e => d (hinj i k hi hk e).symm)]; omega)
  rw [e, isum_pick (g := a) hi] at h1
  exact h1
end
/-- the free places -/
def freeT (A : List Nat) : Nat → List Nat
  | 0 => []
  | k + 1 => if k ∈ A then freeT A k else freeT A k ++ [k]
theorem freeT_lt (A : List Nat) : ∀ k x, x ∈ freeT A k → x < k ∧ x ∉ A
  | 0, x, h => by cases h
  | k + 1, x, h => by
    simp only [freeT] at h
    split at h
    · have := freeT_lt A k x h; exact ⟨by omega, this.2⟩
    · rcases List.mem_append.1 h with h | h
      · have := freeT_lt A k x h; exact ⟨by omega, this.2⟩
      · have e : x = k := by simpa using h
        subst e
        exact ⟨by omega, by assumption⟩
theorem freeT_nodup (A : List Nat) : ∀ k, (freeT A k).Nodup
  | 0 => List.nodup_nil
  | k + 1 => by
    simp only [freeT]
    split
    · exact freeT_nodup A k
    · rw [List.nodup_append]
      refine ⟨freeT_nodup A k, by simp, fun x hx y hy e => ?_⟩
      have := (freeT_lt A k x hx).1
      have e2 : y = k := by simpa using hy
      omega

theorem below_step (k : Nat) : ∀ A : List Nat, A.countP (fun x => decide (x < k + 1)) = A.countP (fun x => decide (x < k)) + A.count k
  | [] => rfl
  | x :: A => by
    have ih := below_step k A
    rw [List.countP_cons, List.countP_cons, List.count_cons, ih]
    by_cases h1 : x < k
    · rw [if_pos (by simp; omega), if_pos (by simpa using h1), if_neg (by simp; omega)]; omega
    · by_cases h2 : x = k
      · subst h2; rw [if_pos (by simp), if_neg (by simp), if_pos (by simp)]; omega
      · rw [if_neg (by simp; omega), if_neg (by simpa using h1), if_neg (by simpa using h2)]; omega
theorem freeT_len (A : List Nat) (h : A.Nodup) : ∀ k, (freeT A k).length + A.countP (fun x => decide (x < k)) = k
  | 0 => by
    have : A.countP (fun x => decide (x < 0)) = 0 := by rw [List.countP_eq_zero]; intro x _; simp
    rw [this]; rfl
  | k + 1 => by
    have ih := freeT_len A h k
    rw [below_step]
    simp only [freeT]
    split
    · rename_i hk
      have : A.count k = 1 := by
        have h1 := List.nodup_iff_count.1 h k
        have h2 := List.count_pos_iff.2 hk
        omega
      omega
    · rename_i hk
      have : A.count k = 0 := List.count_eq_zero.2 hk
      rw [List.length_append]
      simp only [List.length_cons, List.length_nil]
      omega

end Go.Proofs.Ytffnpokceomncaa

namespace Go.Proofs.Ytffnpokceomncaa
open Go.RowKit
set_option linter.unusedVariables false

/-- the struct in block go, the rows' slices in block g, none of these blocks the same -/
structure BoxM (b m go g gc N C : Nat) (p c : Int) (w : World) (hd : Nat → Option Addr) (r cp : Nat → Nat) (M : Nat → Nat → Int) : Prop where
  mx : Mtx b w (some ⟨g, 0, none⟩) gc N C hd r cp M
  box : RowL w go 24 [.int .i64 p, .int .i64 c, .slice (some ⟨g, 0, none⟩) N gc]
  pos : 0 < C
  gne : b ≤ g ∧ g ≠ go ∧ g < m
  rne : ∀ i, i < N → r i ≠ go ∧ r i < m
  golt : go < m
namespace BoxM
variable {b m go g gc N C : Nat} {p c : Int} {w : World} {hd : Nat → Option Addr} {r cp : Nat → Nat} {M : Nat → Nat → Int}
theorem keep {w' : World} (h : BoxM b m go g gc N C p c w hd r cp M) (hb : Below w.heap.size w w') : BoxM b m go g gc N C p c w' hd r cp M := ⟨h.mx.keep hb, h.box.keep hb, h.pos, h.gne, h.rne, h.golt⟩
theorem congr {M' : Nat → Nat → Int} (h : BoxM b m go g gc N C p c w hd r cp M) (e : ∀ i j, i < N → j < C → M i j = M' i j) : BoxM b m go g gc N C p c w hd r cp M' := ⟨h.mx.congr e, h.box, h.pos, h.gne, h.rne, h.golt⟩
theorem c0 (h : BoxM b m go g gc N C p c w hd r cp M) : w.cell? ⟨go, 0, none⟩ = some (.int .i64 p) := h.box.cell rfl
theorem c1 (h : BoxM b m go g gc N C p c w hd r cp M) : w.cell? ⟨go, 1, none⟩ = some (.int .i64 c) := h.box.cell rfl
theorem c2 (h : BoxM b m go g gc N C p c w hd r cp M) : w.cell? ⟨go, 2, none⟩ = some (.slice (some ⟨g, 0, none⟩) N gc) := h.box.cell rfl
theorem t (h : BoxM b m go g gc N C p c w hd r cp M) {i : Nat} (hi : i < N) : w.cell? ⟨g, i, none⟩ = some (.slice (some ⟨r i, 0, none⟩) C (cp i)) := by rw [h.mx.tcell hi, h.mx.hdr h.pos i hi]
theorem e (h : BoxM b m go g gc N C p c w hd r cp M) {i j : Nat} (hi : i < N) (hj : j < C) : w.cell? ⟨r i, j, none⟩ = some (.int .i64 (M i j)) := h.mx.cell hi hj
theorem fz (h : BoxM b m go g gc N C p c w hd r cp M) {i : Nat} (hi : i < N) (j : Nat) : w.frozen? ⟨r i, j, none⟩ = false := h.mx.fz h.pos hi j
theorem rb (h : BoxM b m go g gc N C p c w hd r cp M) {i : Nat} (hi : i < N) : b ≤ r i := (h.mx.rlt h.pos hi).1
theorem set (h : BoxM b m go g gc N C p c w hd r cp M) {a : Nat} (ha : a < N) (q : Nat) (x : Int) : BoxM b m go g gc N C p c (w.setCell ⟨r a, q, none⟩ (.int .i64 x)) hd r cp (setM M a q x) :=
  ⟨h.mx.set h.pos ha q x, (Below.heap_setCell _ _ _ _ (fun e => (h.rne a ha).1 e.symm)).trans h.box, h.pos, h.gne, h.rne, h.golt⟩
theorem swap (h : BoxM b m go g gc N C p c w hd r cp M) {i k : Nat} (hi : i < N) (hk : k < N) : BoxM b m go g gc N C p c ((w.setCell ⟨g, i, none⟩ (.slice (some ⟨r k, 0, none⟩) C (cp k))).setCell ⟨g, k, none⟩ (.slice (some ⟨r i, 0, none⟩) C (cp i))) (fun x => hd (swp i k x)) (fun x => r (swp i k x)) (fun x => cp (swp i k x)) (fun x => M (swp i k x)) := by
  have h1 := h.mx.swap hi hk
  rw [h.mx.hdr h.pos i hi, h.mx.hdr h.pos k hk] at h1
  exact ⟨h1, (Below.heap_setCell _ _ _ _ (fun e => h.gne.2.1 e.symm)).trans ((Below.heap_setCell _ _ _ _ (fun e => h.gne.2.1 e.symm)).trans h.box), h.pos, h.gne, fun x hx => h.rne _ (swp_lt hi hk hx), h.golt⟩
theorem keep_at {w' : World} (h : BoxM b m go g gc N C p c w hd r cp M) (hb : Below m w w') : BoxM b m go g gc N C p c w' hd r cp M := ⟨h.mx.keep_at hb (fun _ e => by cases e; exact h.gne.2.2) (fun i hi _ => (h.rne i hi).2), h.box.keep_at hb h.golt, h.pos, h.gne, h.rne, h.golt⟩
end BoxM

/-- the first rows, under a new row of slices -/
theorem Mtx.top_new {b : Nat} {w w' : World} {ad ad' : Option Addr} {gc gc' N n C : Nat} {hd : Nat → Option Addr} {r cp : Nat → Nat} {M : Nat → Nat → Int} (h : Mtx b w ad gc N C hd r cp M) (hn : n ≤ N) (hb : Below w.heap.size w w') (ht : w'.ownsRow b 35 1 (.slice ad' n gc') n ((List.range n).map (fun i => Value.slice (hd i) C (cp i)))) (hnew : 0 < n → ∀ g, ad' = some ⟨g, 0, none⟩ → w.heap.size ≤ g) : Mtx b w' ad' gc' n C hd r cp M where
  top := ht
  hdr := fun hC i hi => h.hdr hC i (by omega)
  row := fun hC i hi => (h.row hC i (by omega)).keep hb
  ne := fun hC i hi g hg e => by
    have h1 := (h.rlt hC (show i < N by omega)).2
    have h2 := hnew (by omega) g hg
    omega
  inj := fun hC i j hi hj => h.inj hC i j (by omega) (by omega)
  nil := fun i hi => h.nil i (by omega)

set_option maxRecDepth 100000 in
set_option maxHeartbeats 2000000 in
theorem c_cloneRows {b : Nat} (w : World) (g gc N n C : Nat) (hd : Nat → Option Addr) (r cp : Nat → Nat) (M : Nat → Nat → Int) (h : Mtx b w (some ⟨g, 0, none⟩) gc N C hd r cp M) (hb : b ≤ w.heap.size) (hn : n ≤ N) (hN : N ≤ 8) (cap : Nat) :
    Calls Try.prog 58 #[.slice (some ⟨g, 0, none⟩) n cap] w (RetP w.heap.size w (fun v w' => ∃ g' gc', v = .slice (some ⟨g', 0, none⟩) n gc' ∧ Mtx b w' (some ⟨g', 0, none⟩) gc' n C hd r cp M ∧ w.heap.size ≤ g')) := by
  have heq : ∀ w : World, (binOp .eql 22 (.slice (some ⟨g, 0, none⟩) n cap) (.slice none 0 0)).run Try.prog w = .ok (.bool false) w := fun w => by simp only [binOp]; simp [run_equal_slice_nil w 22 35 (some ⟨g, 0, none⟩) n cap Try.underlying22]
  obtain ⟨i0, hi, hz0, hz1, hz2⟩ := info_parts info_row
  have hal : Below w.heap.size w (w.alloc (.cells #[] 35)) := (Below.refl _ _).alloc (Nat.le_refl _) _
  have hsz : (w.alloc (.cells #[] 35)).heap.size = w.heap.size + 1 := by simp
  have HO : Hid ((w.alloc (.cells #[] 35)).ownsRow w.heap.size 35 1 (.slice (some ⟨w.heap.size, 0, none⟩) 0 0) 0 []) := Lib.hid ⟨rfl, .inr ⟨w.heap.size, 0, #[], rfl, Nat.le_refl _, heap_alloc_new _ _, by simp, by simp [maxLen], by simp, by simp⟩⟩
  have HM := Lib.hid h
  have HA := Lib.hid hal
  have HS := Lib.hid hsz
  have HN : Hid (∀ j u, ((List.range n).map (fun i => Value.slice (hd i) C (cp i)))[j]? = some u → (w.alloc (.cells #[] 35)).cell? ((⟨g, 0, none⟩ : Addr).add j) = some u) := Lib.hid (fun j u hj => by
    have e : (⟨g, 0, none⟩ : Addr).add j = ⟨g, j, none⟩ := by unfold Addr.add; split <;> simp_all
    have hjn : j < n := by
      have := (List.getElem?_eq_some_iff.1 hj).1
      simpa using this
    rw [e, (h.keep hal).tcell (show j < N by omega)]
    rw [← hj]
    simp [hjn])
  have HL : Hid (((List.range n).map (fun i => Value.slice (hd i) C (cp i))).length = n * 1) := Lib.hid (by simp)
  have H1 : Hid (∀ u ∈ (List.range n).map (fun i => Value.slice (hd i) C (cp i)), u.oneCell' = true) := Lib.hid (fun u hu => by
    obtain ⟨i, _, rfl⟩ := List.mem_map.1 hu
    rfl)
  clear h hal hsz
  go_enter Try.func58, Try.ntmps58
  go_wp2_with (first | (at_builtin; refine wpList_append_own _ rfl _ _ 22 rfl w.heap.size 35 i0 (.slice none 0 0) 1 24 Try.underlying22 hi hz0 hz1 hz2 rfl (by decide) _ 0 [] rfl HO.out ⟨g, 0, none⟩ n cap ((List.range n).map (fun i => Value.slice (hd i) C (cp i))) rfl HL.out HN.out H1.out (by simp only [maxLen]; omega) (by omega) (by rw [HS.out]; omega) ?_; intro v' w' h2 h3 h4) | fail)
  have hbel : Below w.heap.size w w' := HA.out.grown h3 (by have := HS.out; omega) (fun k hk => (World.ownsRow.lt HO.out k hk).1)
  go_ret
  have hform : ∃ g' c', v' = .slice (some ⟨g', 0, none⟩) n c' := by
    rcases h2.2 with ⟨e, _⟩ | ⟨g', c', cur, e, _⟩
    · have := h4.1 e
      cases this.1
    · exact ⟨g', c', by rw [e]; simp⟩
  obtain ⟨g', c', rfl⟩ := hform
  have hlt := (World.ownsRow.lt h2 g' rfl).1
  refine RetP.of ⟨⟨w', hbel, hbel.size⟩, rfl⟩ ⟨g', c', rfl, HM.out.top_new hn hbel ?_ (fun _ g2 e => by cases e; exact hlt), hlt⟩
  simp only [Nat.zero_add, List.nil_append] at h2
  exact World.ownsRow.mono h2 hb

set_option maxRecDepth 100000 in
theorem c_cloneRows_nil {B : Nat} {W : World} (u : Later B W) :
    Calls Try.prog 58 #[.slice none 0 0] u.val (Ret B W (.slice none 0 0)) := by
  have heq : ∀ w : World, (binOp .eql 22 (.slice none 0 0) (.slice none 0 0)).run Try.prog w = .ok (.bool true) w := fun w => by simp only [binOp]; simp [run_equal_slice_nil w 22 35 none 0 0 Try.underlying22]
  go_enter Try.func58, Try.ntmps58
  go_wp2
  go_ret
  exact Ret.mk u rfl

end Go.Proofs.Ytffnpokceomncaa

namespace Go.Proofs.Ytffnpokceomncaa
open Go.RowKit
set_option linter.unusedVariables false

/-- what field.reduced hands back and leaves -/
def RdRes (b m go N C p : Nat) (M0 : Nat → Nat → Int) (v : Value) (w : World) : Prop :=
  ∃ (A : List Nat) (M : Nat → Nat → Int) (cc : Nat) (ada : Option Addr) (cpa : Nat) (ad : Option Addr) (gc : Nat) (hd : Nat → Option Addr) (r cp : Nat → Nat),
    v = .slice ada A.length cpa ∧ Own m w ada cpa (ints A) ∧ RdS p C N M0 M cc A ∧ cc ≤ C ∧ (cc = C ∨ A.length = N) ∧ RowL w go 24 [.int .i64 p, .int .i64 C, .slice ad A.length gc] ∧ Mtx b w ad gc A.length C hd r cp M

/-- another block is written -/
theorem Mtx.apart {B : Nat} {w : World} {ad : Option Addr} {gc N C : Nat} {hd : Nat → Option Addr} {r cp : Nat → Nat} {P : Nat → Nat → Int} (h : Mtx B w ad gc N C hd r cp P) {b i : Nat} (h1 : ∀ g, ad = some ⟨g, 0, none⟩ → g ≠ b) (h2 : 0 < C → ∀ i, i < N → r i ≠ b) (x : Value) : Mtx B (w.setCell ⟨b, i, none⟩ x) ad gc N C hd r cp P :=
  ⟨ownsRow_other h.top (fun e => by
    rcases h.form with ⟨rfl, _⟩ | ⟨g, rfl, _⟩
    · cases e
    · exact h1 g rfl (by simpa [Value.ownBlock] using e)) x, h.hdr, fun hC k hk => (h.row hC k hk).far2 (h2 hC k hk) x, h.ne, h.inj, h.nil⟩
theorem RdRes.of {b m go N C p : Nat} {M0 M : Nat → Nat → Int} {cc : Nat} {A : List Nat} {w : World} {ada ad : Option Addr} {cpa gc : Nat} {hd : Nat → Option Addr} {r cp : Nat → Nat} {x : Value} (hO : Own m w ada cpa (ints A)) (hR : RdS p C N M0 M cc A) (hcc : cc ≤ C) (hend : cc = C ∨ A.length = N)
    (hbx : RowL w go 24 [.int .i64 p, .int .i64 C, x]) (hmx : Mtx b w ad gc A.length C hd r cp M) (hgo : go < m) (h1 : ∀ g, ad = some ⟨g, 0, none⟩ → g ≠ go) (h2 : 0 < C → ∀ i, i < A.length → r i ≠ go) :
    RdRes b m go N C p M0 (.slice ada A.length cpa) (w.setCell ⟨go, 2, none⟩ (.slice ad A.length gc)) :=
  ⟨A, M, cc, ada, cpa, ad, gc, hd, r, cp, rfl, hO.set hgo _, hR, hcc, hend, hbx.set 2 _, hmx.apart h1 h2 _⟩

theorem ints_app1 (A : List Nat) (c : Nat) : ints A ++ [(c : Int)] = ints (A ++ [c]) := by simp [ints]
theorem wpList_pushN {B : Nat} {W w : World} (hw : Below B W w) (hB : B ≤ w.heap.size) {ops : Array Oper} {rest : List Oper} {o : Oper} {a : Act} {Q : Exit → Act → World → Prop} (hgd : o.guard = none) (s x : Operand)
    (ho : o.op = .call { callee := .builtin .append, args := #[s, x], argTypes := #[35, 35] })
    (A : List Nat) (n : Nat) (hn : A.length = n) (ad : Option Addr) (cap c : Nat) (hs : a.eval s = .slice ad n cap) (hown : Own B w ad cap (ints A))
    (hx : a.eval x = .slice (some ⟨w.heap.size, 0, none⟩) 1 1)
    (hlen : n + 1 ≤ 17592186044416)
    (h : ∀ (u' : Later B W) (ad' : Option Addr) (cap' : Nat), Own B u'.val ad' cap' (ints (A ++ [c])) → wpList Try.prog ops Q rest (a.put o.dst (.slice ad' (n + 1 : Nat) cap')) u'.val) :
    wpList Try.prog ops Q (o :: rest) a (w.alloc (.cells #[.int .i64 c] 3)) := by
  have hl : (ints A).length = n := by rw [← hn]; simp [ints]
  refine wpList_push hw hB hgd s x ho (ints A) ad cap (c : Int) (by rw [hl]; exact hs) hown hx (by omega) (fun u' ad' cap' h' => ?_)
  rw [ints_app1] at h' ⊢
  rw [show (ints (A ++ [c])).length = n + 1 by rw [← hn]; simp [ints]]
  exact h u' ad' cap' h'

set_option maxRecDepth 100000 in
set_option maxHeartbeats 8000000 in
theorem c_reduced_idle {b : Nat} {X : World} (u : Later b X) (go gc N C p : Nat) (ad : Option Addr) (hd : Nat → Option Addr) (r cp : Nat → Nat) (M : Nat → Nat → Int)
    (hbx : RowL u.val go 24 [.int .i64 p, .int .i64 C, .slice ad N gc]) (hmx : Mtx b u.val ad gc N C hd r cp M) (hgo : b ≤ go) (h0 : C = 0 ∨ N = 0) (hN : N ≤ 8) (hs : Small p N C M) :
    Calls Try.prog 39 #[.pointer (some ⟨go, 0, none⟩)] u.val (RetP b X (RdRes b u.val.heap.size go N C p M)) := by
  have c1 : u.val.cell? ⟨go, 1, none⟩ = some (.int .i64 C) := hbx.cell rfl
  have c2 : u.val.cell? ⟨go, 2, none⟩ = some (.slice ad N gc) := hbx.cell rfl
  have HB := Lib.hid hbx
  have HM := Lib.hid hmx
  have hroom := hmx.room
  have hgl := hbx.lt
  have hub := u.size
  have HR : Hid (RdS p C N M M 0 []) := Lib.hid (RdS.start hs)
  have HE : Hid (0 = C ∨ ([] : List Nat).length = N) := Lib.hid (by rcases h0 with h | h <;> simp [h])
  have HF := Lib.hid hmx.form
  have z2 : ∀ y : Later u.val.heap.size u.val, y.val.frozen? ⟨go, 2, none⟩ = false := fun y => (HB.out.keep y.below).fz 2
  have z3 : ∀ y : Later u.val.heap.size u.val, y.val.cell? ⟨go, 2, none⟩ = some (.slice ad N gc) := fun y => (HB.out.keep y.below).cell rfl
  have HW : Hid (∀ (y : Later u.val.heap.size u.val) (x : Value), ∃ v : Later b X, v.val = y.val.setCell ⟨go, 2, none⟩ x) := Lib.hid (fun y x => ⟨(u.up y).set ⟨go, 2, none⟩ hgo x, rfl⟩)
  clear hbx hmx hs
  rcases HF.out with ⟨rfl, rfl, rfl⟩ | ⟨g, rfl, hgb, hgu⟩
  · have K0 := Lib.hid (fun y : Later u.val.heap.size u.val => c_cloneRows_nil y)
    have f2 := z2 (Later.self _)
    have f3 := z3 (Later.self _)
    have HM0 : Hid (∀ y : Later u.val.heap.size u.val, Mtx b y.val none 0 0 C hd r cp M) := Lib.hid (fun y => HM.out.keep y.below)
    clear HF h0
    go_enter Try.func39, Try.ntmps39
    go_wp2
    go_loopw [3, 4] (fun s i wr => ∃ v : Later u.val.heap.size u.val, i = .int .i64 0 ∧ s = .slice none 0 0 ∧ wr = v.val ∧ Hid (v.val = u.val)) (fun _ _ _ => 0)
    case atStart => exact ⟨Later.self _, rfl, rfl, rfl, Lib.hid rfl⟩
    case round =>
      obtain ⟨v, rfl, rfl, rfl, HVe⟩ := hrel
      have K1 := Lib.hid (K0.out v)
      have e1 : v.val.cell? ⟨go, 1, none⟩ = some (.int .i64 C) := by rw [HVe.out]; exact c1
      have e2 : v.val.cell? ⟨go, 2, none⟩ = some (.slice none (0 : Nat) 0) := by rw [HVe.out]; exact c2
      clear c1 c2 HVe
      by_cases hC : 0 < C
      · go_wp2_with (first | (go_at_call 58; (with_reducible refine (K1.out).mono ?_); rintro e _ ⟨rfl, y, rfl⟩) | fail)
        go_ret
        refine RetP.of (HW.out y _) ?_
        exact RdRes.of (Own.nil _ _) HR.out (Nat.zero_le _) HE.out (HB.out.keep y.below) (HM0.out y) hgl (fun _ e => by cases e) (fun _ i hi => by simp at hi)
      · have hC0 : C = 0 := by omega
        subst hC0
        go_wp2_with (first | (go_at_call 58; (with_reducible refine (K1.out).mono ?_); rintro e _ ⟨rfl, y, rfl⟩) | fail)
        go_ret
        refine RetP.of (HW.out y _) ?_
        exact RdRes.of (Own.nil _ _) HR.out (Nat.zero_le _) (.inl rfl) (HB.out.keep y.below) (HM0.out y) hgl (fun _ e => by cases e) (fun _ i hi => by simp at hi)
  · have K0 := Lib.hid (c_cloneRows u.val g gc N 0 C hd r cp M HM.out hub (Nat.zero_le _) hN gc)
    have HX : Hid (∀ (y : Later u.val.heap.size u.val) (g' gc' : Nat), Mtx b y.val (some ⟨g', 0, none⟩) gc' 0 C hd r cp M → u.val.heap.size ≤ g' → RetP b X (RdRes b u.val.heap.size go N C p M) (.returned (.slice none 0 0)) (y.val.setCell ⟨go, 2, none⟩ (.slice (some ⟨g', 0, none⟩) (0 : Nat) gc'))) := Lib.hid (fun y g' gc' h1 h2 => by
      refine RetP.of (HW.out y _) ?_
      exact RdRes.of (A := []) (Own.nil _ _) HR.out (Nat.zero_le _) HE.out (HB.out.keep y.below) h1 hgl (fun _ e => by cases e; omega) (fun _ i hi => by simp at hi))
    obtain ⟨z, hz⟩ : ∃ z : Later u.val.heap.size u.val, z.val = u.val := ⟨Later.self _, rfl⟩
    clear HF HW
    go_enter Try.func39, Try.ntmps39
    go_wp2
    go_loopw [3, 4] (fun s i wr => i = .int .i64 0 ∧ s = .slice none 0 0 ∧ Hid (wr = u.val)) (fun _ _ _ => 0)
    case atStart => exact ⟨rfl, rfl, Lib.hid rfl⟩
    case round =>
      obtain ⟨rfl, rfl, HVe⟩ := hrel
      rw [HVe.out]
      clear HVe
      by_cases hC : 0 < C
      · have hN0 : N = 0 := by omega
        subst hN0
        go_wp2_with (first | (go_at_call 58; (with_reducible refine (K0.out).mono ?_); rintro e _ ⟨_, rfl, ⟨g', gc', rfl, hM', hg'⟩, y, rfl⟩) | fail)
        go_ret
        exact HX.out y g' gc' hM' hg'
      · have hC0 : C = 0 := by omega
        subst hC0
        go_wp2_with (first | (go_at_call 58; (with_reducible refine (K0.out).mono ?_); rintro e _ ⟨_, rfl, ⟨g', gc', rfl, hM', hg'⟩, y, rfl⟩) | fail)
        go_ret
        exact HX.out y g' gc' hM' hg'

/-- behind the change of two rows -/
def RdCut (b m go g gc N C p : Nat) (X : World) (M0 : Nat → Nat → Int) (c n : Nat) (A : List Nat) (ada : Option Addr) (cpa : Nat) (w : World) : Prop :=
  ∃ (M : Nat → Nat → Int) (hd : Nat → Option Addr) (r cp : Nat → Nat) (v : Later b X), w = v.val ∧ BoxM b m go g gc N C p C v.val hd r cp M ∧ RdS p C N M0 M c A ∧ M n c ≠ 0 ∧ (m ≤ v.val.heap.size ∧ Own m v.val ada cpa (ints A))

set_option maxRecDepth 100000 in
set_option maxHeartbeats 16000000 in
theorem c_reduced_main {b : Nat} {X : World} (u : Later b X) (go g gc N C p : Nat) (hd : Nat → Option Addr) (r cp : Nat → Nat) (M0 : Nat → Nat → Int)
    (h : BoxM b u.val.heap.size go g gc N C p C u.val hd r cp M0) (hgo : b ≤ go) (hp : PrimeP p) (hN : N ≤ 8) (hC : C ≤ 8) (hs : Small p N C M0) :
    Calls Try.prog 39 #[.pointer (some ⟨go, 0, none⟩)] u.val (RetP b X (RdRes b u.val.heap.size go N C p M0)) := by
  have hp7 := hp.le
  have hbm := u.size
  have hgb := h.gne
  have hgm := h.golt
  have hroom := h.mx.room
  obtain ⟨m, hm⟩ : ∃ m, m = u.val.heap.size := ⟨_, rfl⟩
  rw [← hm] at hbm hgb hgm
  have HD : Hid (BoxM b m go g gc N C p C u.val hd r cp M0) := Lib.hid (by rw [hm]; exact h)
  have HR : Hid (RdS p C N M0 M0 0 []) := Lib.hid (RdS.start hs)
  have HO : Hid (m ≤ u.val.heap.size ∧ Own m u.val none 0 (ints [])) := Lib.hid ⟨by omega, Own.nil _ _⟩
  have HL0 : Hid (([] : List Nat).length = 0) := Lib.hid rfl
  rw [← hm]
  clear h hm hs
  go_enter Try.func39, Try.ntmps39
  go_wp2
  go_loopw [3, 4] (fun s i wr => ∃ (c n : Nat) (A : List Nat) (M : Nat → Nat → Int) (ada : Option Addr) (cpa : Nat) (hd : Nat → Option Addr) (r cp : Nat → Nat) (v : Later b X), c ≤ C ∧ i = .int .i64 c ∧ s = .slice ada n cpa ∧ wr = v.val ∧ Hid (A.length = n) ∧ Hid (BoxM b m go g gc N C p C v.val hd r cp M) ∧ Hid (RdS p C N M0 M c A) ∧ Hid (m ≤ v.val.heap.size ∧ Own m v.val ada cpa (ints A))) (fun _ i _ => C - (intOf i).toNat)
  case atStart => exact ⟨0, 0, [], M0, none, 0, hd, r, cp, u, by omega, rfl, rfl, rfl, HL0, HD, HR, HO⟩
  case round =>
    clear HD HR HO HL0 u hd r cp
    obtain ⟨c, n, A, M, ada, cpa, hd, r, cp, v, hc, rfl, rfl, rfl, HL, HD, HR, HO⟩ := hrel
    have hnN : n ≤ N := by have := HR.out.le; rw [HL.out] at this; exact this
    have hngc : n ≤ gc := by omega
    have b1 := HD.out.c1
    have b2 := HD.out.c2
    by_cases hgo1 : c < C ∧ n < N
    · obtain ⟨hcC, hnl⟩ := hgo1
      have HL2 := Lib.hid HL.out
      go_wp2
      clear b1 b2
      go_loopw [6] (fun i wr => ∃ (q : Nat) (v' : Later b X), n ≤ q ∧ q ≤ N ∧ i = .int .i64 q ∧ wr = v'.val ∧ Hid (v'.val = v.val) ∧ Hid (∀ x, n ≤ x → x < q → M x c = 0)) (fun i _ => N - (intOf i).toNat)
      case atStart => exact ⟨n, v, by omega, by omega, rfl, rfl, Lib.hid rfl, Lib.hid (fun x h1 h2 => by omega)⟩
      case round =>
        obtain ⟨q, v', hkq, hqn, rfl, rfl, HVe, HZe⟩ := hrel
        rw [HVe.out]
        clear HVe v'
        have b2 := HD.out.c2
        by_cases hq : q < N
        · have tq := HD.out.t hq
          have eq := HD.out.e hq hcC
          have hx := HR.out.small q c hq hcC
          rcases ieq (M q c) 0 with ⟨g1, d1, _⟩ | ⟨g1, d1, _⟩
          · have HZ2 : Hid (∀ x, n ≤ x → x < q + 1 → M x c = 0) := Lib.hid (fun x h1 h2 => by
              by_cases e : x = q
              · subst e; exact g1
              · exact HZe.out x h1 (by omega))
            generalize M q c = mq at *
            go_wp2
            go_roundw
            case rel => exact ⟨q + 1, v, by omega, by omega, by go_num, by trivial, Lib.hid rfl, HZ2⟩
            case measure => simp [intOf]; omega
          · have HNz := Lib.hid g1
            have f1 : (M q c == 0) = false := by rw [beq_eq_false_iff_ne]; exact g1
            have f4 : ((q : Int) == (N : Int)) = false := by rw [beq_eq_false_iff_ne]; omega
            go_upto_region 10 with fail
            clear f1 f4 eq hx d1 g1
            have tk := HD.out.t hnl
            have fq := HD.out.mx.tfz q
            have fk := HD.out.mx.tfz n
            have hgg : g ≠ go := hgb.2.1
            have e1 : (v.val.setCell ⟨g, n, none⟩ (.slice (some ⟨r q, 0, none⟩) C (cp q))).cell? ⟨g, q, none⟩ = some (.slice (some ⟨r q, 0, none⟩) C (cp q)) := by
              have h1 := (World.ownsRow.stored HD.out.mx.top n (.slice (some ⟨r q, 0, none⟩) C (cp q))).1
              rw [World.ownsRow.cellAt h1 q (by omega)]
              rw [List.getElem?_set]
              by_cases e : n = q
              · subst e; rw [if_pos rfl, if_pos (by simpa using hnl)]
              · rw [if_neg e]
                simp [hq, HD.out.mx.hdr HD.out.pos q hq]
            have e2 : (v.val.setCell ⟨g, n, none⟩ (.slice (some ⟨r q, 0, none⟩) C (cp q))).frozen? ⟨g, q, none⟩ = false := World.ownsRow.frozenAt (World.ownsRow.stored HD.out.mx.top n (.slice (some ⟨r q, 0, none⟩) C (cp q))).1 q
            obtain ⟨M1, hM1⟩ : ∃ M1, M1 = fun i => M (swp n q i) := ⟨_, rfl⟩
            obtain ⟨v1, hv1⟩ : ∃ v1 : Later b X, v1.val = (((v.val.setCell ⟨g, n, none⟩ (.slice (some ⟨r q, 0, none⟩) C (cp q))).setCell ⟨g, q, none⟩ (.slice (some ⟨r n, 0, none⟩) C (cp n)))).drew := ⟨((v.set ⟨g, n, none⟩ hgb.1 _).set ⟨g, q, none⟩ hgb.1 _).drew, rfl⟩
            have HD2 : Hid (BoxM b m go g gc N C p C v1.val (fun x => hd (swp n q x)) (fun x => r (swp n q x)) (fun x => cp (swp n q x)) M1) := Lib.hid (by
              rw [hv1, hM1]
              exact (HD.out.swap hnl hq).keep (Below.refl _ _).drew)
            have HR2 : Hid (RdS p C N M0 M1 c A) := Lib.hid (by
              have := HR.out.swap (k := q) (by rw [HL.out]; exact hkq) hq
              rw [HL.out] at this
              rw [hM1]; exact this)
            have HNz2 : Hid (M1 n c ≠ 0) := Lib.hid (by
              rw [hM1]
              show M (swp n q n) c ≠ 0
              have : swp n q n = q := by unfold swp; rw [if_pos rfl]
              rw [this]; exact HNz.out)
            have HO2 : Hid (m ≤ v1.val.heap.size ∧ Own m v1.val ada cpa (ints A)) := Lib.hid (by
              rw [hv1]
              refine ⟨by have := HO.out.1; simpa using this, ?_⟩
              exact ((HO.out.2.set hgb.2.2 _).set hgb.2.2 _).keep (Below.refl _ _).drew)
            clear HD HR HNz HZe HO hM1
            go_cut [6] from 62 to 87 (fun x_ w_ => x_ = .int .i64 q ∧ RdCut b m go g gc N C p X M0 c n A ada cpa w_)
            case first => as_aux_lemma =>
              go_big_region
              all_goals
                rw [← hv1]
                clear hv1 tq tk fq fk b2 e1 e2
                go_wp2
                go_meet
                case rel => exact ⟨rfl, _, _, _, _, v1, rfl, HD2.out, HR2.out, HNz2.out, HO2.out⟩
            case rest => as_aux_lemma =>
              clear HD2 HR2 HNz2 HO2 hv1 tq tk fq fk b2 e1 e2
              obtain ⟨rfl, M1, hd', r', cp', v1, rfl, hD, hR, hNz, hO⟩ := hcut
              have HD2 := Lib.hid hD
              have HR2 := Lib.hid hR
              have HNz2 := Lib.hid hNz
              have HO2 := Lib.hid hO
              clear hD hR hNz hO
              have hsk := HR2.out.small n c hnl hcC
              obtain ⟨x, hx⟩ := Int.eq_ofNat_of_zero_le hsk.1
              have hx0 : 0 < x ∧ x < p := by have := HNz2.out; omega
              obtain ⟨f, hfp, hf1, hKI⟩ := c_fieldInverse x p hp hx0.1 hx0.2
              have HB1 : Hid ((M1 n c * (f : Int)) % (p : Int) = 1) := Lib.hid (by rw [hx]; exact hf1)
              have KI : Hid (∀ w : Later v1.val.heap.size v1.val, Calls Try.prog 35 #[.int .i64 x, .int .i64 p] w.val (Ret v1.val.heap.size v1.val (.int .i64 f))) := Lib.hid (fun w => hKI w)
              have a0 : ∀ w : Later v1.val.heap.size v1.val, w.val.cell? ⟨go, 0, none⟩ = some (.int .i64 p) := fun w => (HD2.out.keep w.below).c0
              have a2 : ∀ w : Later v1.val.heap.size v1.val, w.val.cell? ⟨go, 2, none⟩ = some (.slice (some ⟨g, 0, none⟩) N gc) := fun w => (HD2.out.keep w.below).c2
              have ak : ∀ w : Later v1.val.heap.size v1.val, w.val.cell? ⟨g, n, none⟩ = some (.slice (some ⟨r' n, 0, none⟩) C (cp' n)) := fun w => (HD2.out.keep w.below).t hnl
              have ae : ∀ w : Later v1.val.heap.size v1.val, w.val.cell? ⟨r' n, c, none⟩ = some (.int .i64 (x : Int)) := fun w => by rw [← hx]; exact (HD2.out.keep w.below).e hnl hcC
              obtain ⟨z, hz⟩ : ∃ z : Later v1.val.heap.size v1.val, z.val = v1.val := ⟨Later.self _, rfl⟩
              rw [← hz]
              clear hz hf1 hKI hsk hx
              go_wp2
              refine wp_region_later z (by kernel_rfl) (by kernel_rfl) (fun _ => ?_)
              repeat (first | go_big_quiet_step (((go_at_call 35; exact KI.out _))) | (refine wpQuiet_step (fun K hK => ?_); go_simp; refine ⟨_, fun _ => rfl, ?_⟩; refine hK _ ?_; clear hK K))
              refine wpQuiet_nil ?_
              intro z
              obtain ⟨v2, hv2⟩ : ∃ v2 : Later b X, v2.val = z.val := ⟨v1.to z.val (z.below.mono (by have := v1.size; omega)), rfl⟩
              have HD3 : Hid (BoxM b m go g gc N C p C v2.val hd' r' cp' (sclT p M1 n f 0)) := Lib.hid (by rw [hv2, sclT_start]; exact HD2.out.keep z.below)
              have HO3 : Hid (m ≤ v2.val.heap.size ∧ Own m v2.val ada cpa (ints A)) := Lib.hid (by
                rw [hv2]
                exact ⟨by have := z.size; have := HO2.out.1; omega, HO2.out.2.keep z.below⟩)
              have b2 := HD3.out.c2
              have bn := HD3.out.t hnl
              rw [← hv2]
              clear a0 a2 ak ae KI hv2 z HD2 HO2
              go_wp2
              clear b2 bn
              go_loopw [111] (fun i wr => ∃ (j : Nat) (v : Later b X), j ≤ C ∧ i = .int .i64 j ∧ wr = v.val ∧ Hid (BoxM b m go g gc N C p C v.val hd' r' cp' (sclT p M1 n f j)) ∧ Hid (m ≤ v.val.heap.size ∧ Own m v.val ada cpa (ints A))) (fun i _ => C - (intOf i).toNat)
              case atStart => exact ⟨0, v2, by omega, by go_num, rfl, HD3, HO3⟩
              case round =>
                clear HD3 HO3 v2
                obtain ⟨j, v, hj, rfl, rfl, HD, HO⟩ := hrel
                by_cases hjl : j < C
                · have hsj := HR2.out.small n j hnl hjl
                  have ms := mul_small (a := M1 n j) (b := (f : Int)) (by omega) (by omega)
                  have w1 := IntWalk.i64_in (M1 n j * (f : Int)) (by omega)
                  have hp0 : (p : Int) ≠ 0 := by omega
                  have hpn : p ≠ 0 := by omega
                  obtain ⟨nn, hnn⟩ : ∃ nn, nn = (M1 n j * (f : Int)) % (p : Int) := ⟨_, rfl⟩
                  have tm : Int.tmod (M1 n j * (f : Int)) (p : Int) = nn := by rw [hnn]; exact Int.tmod_eq_emod_of_nonneg ms.1
                  have a0 : ∀ w : Later v.val.heap.size v.val, w.val.cell? ⟨go, 0, none⟩ = some (.int .i64 p) := fun w => (HD.out.keep w.below).c0
                  have a2 : ∀ w : Later v.val.heap.size v.val, w.val.cell? ⟨go, 2, none⟩ = some (.slice (some ⟨g, 0, none⟩) N gc) := fun w => (HD.out.keep w.below).c2
                  have ai : ∀ w : Later v.val.heap.size v.val, w.val.cell? ⟨g, n, none⟩ = some (.slice (some ⟨r' n, 0, none⟩) C (cp' n)) := fun w => (HD.out.keep w.below).t hnl
                  have ei : ∀ w : Later v.val.heap.size v.val, w.val.cell? ⟨r' n, j, none⟩ = some (.int .i64 (M1 n j)) := fun w => by
                    have := (HD.out.keep w.below).e hnl hjl
                    rwa [sclT_here] at this
                  have fi : ∀ w : Later v.val.heap.size v.val, w.val.frozen? ⟨r' n, j, none⟩ = false := fun w => (HD.out.keep w.below).fz hnl j
                  have HDn : Hid (∀ w : Later v.val.heap.size v.val, BoxM b m go g gc N C p C (w.val.setCell ⟨r' n, j, none⟩ (.int .i64 nn)) hd' r' cp' (sclT p M1 n f (j + 1))) := Lib.hid (fun w => by
                    have := (HD.out.keep w.below).set hnl j nn
                    rw [← sclT_step, ← hnn]
                    exact this)
                  have hri := HD.out.rb hnl
                  have hrm := (HD.out.rne n hnl).2
                  have HVx : Hid (∀ w : Later v.val.heap.size v.val, ∃ x : Later b X, x.val = w.val.setCell ⟨r' n, j, none⟩ (.int .i64 nn) ∧ (m ≤ x.val.heap.size ∧ Own m x.val ada cpa (ints A))) := Lib.hid (fun w => ⟨(v.to w.val (w.below.mono (by have := v.size; omega))).set ⟨r' n, j, none⟩ hri _, rfl, by
                    refine ⟨by have := w.size; have := HO.out.1; show m ≤ (w.val.setCell ⟨r' n, j, none⟩ (.int .i64 nn)).heap.size; simp; omega, ?_⟩
                    exact (HO.out.2.keep w.below).set hrm _⟩)
                  obtain ⟨z, hz⟩ : ∃ z : Later v.val.heap.size v.val, z.val = v.val := ⟨Later.self _, rfl⟩
                  rw [← hz]
                  clear hz hnn HD HO hsj ms
                  generalize M1 n j = mij at *
                  go_wp2
                  refine wp_region_later_tail z 26 (by kernel_rfl) (by kernel_rfl) (fun z2 => ?_)
                  simp only [List.take_succ_cons, List.take_zero, List.drop_succ_cons, List.drop_zero]
                  repeat still_step
                  refine wpStill_nil ?_
                  go_wp2
                  obtain ⟨xx, hxx, hxo⟩ := HVx.out z2
                  go_roundw
                  case rel => exact ⟨j + 1, xx, by omega, by go_num, hxx.symm, by rw [hxx]; exact Lib.hid (HDn.out z2), Lib.hid hxo⟩
                  case measure => simp [intOf]; omega
                · have hje : j = C := by omega
                  subst hje
                  have HR3 : Hid (RdS p j N M0 (sclT p M1 n f j) c A) := Lib.hid (by
                    have := HR2.out.scale hp (by rw [HL.out]; exact hnl) (f := f) (by rw [HL.out]; exact HB1.out)
                    rwa [HL.out] at this)
                  have h1 : sclT p M1 n f j n c = 1 := by unfold sclT; rw [if_pos ⟨rfl, hcC⟩]; exact HB1.out
                  have HE : Hid (RdE p j N M0 (sclT p M1 n f j) c A 0) := Lib.hid (RdE.start HR3.out (by rw [HL.out]; exact h1))
                  clear h1
                  generalize sclT p M1 n f j = M3 at *
                  have b2 := HD.out.c2
                  go_wp2
                  clear b2
                  go_loopw [146] (fun i wr => ∃ (i' : Nat) (M4 : Nat → Nat → Int) (v : Later b X), i' ≤ N ∧ i = .int .i64 i' ∧ wr = v.val ∧ Hid (BoxM b m go g gc N j p j v.val hd' r' cp' M4) ∧ Hid (m ≤ v.val.heap.size ∧ Own m v.val ada cpa (ints A)) ∧ Hid (RdE p j N M0 M4 c A i')) (fun i _ => N - (intOf i).toNat)
                  case atStart => exact ⟨0, M3, v, by omega, by go_num, rfl, HD, HO, HE⟩
                  case round =>
                    clear HD HO HE HR3 v
                    obtain ⟨i, M4, v, hi, rfl, rfl, HD, HO, HE⟩ := hrel
                    by_cases hil : i < N
                    · have b2 := HD.out.c2
                      have ti := HD.out.t hil
                      have ei := HD.out.e hil hcC
                      have hsi := HE.out.st.small i c hil hcC
                      by_cases hin : i = n
                      · have HEs := Lib.hid (HE.out.skip (.inl (by rw [HL.out]; exact hin)))
                        subst hin
                        generalize M4 i c = mic at *
                        go_wp2
                        go_roundw
                        case rel => exact ⟨i + 1, M4, v, by omega, by go_num, rfl, HD, HO, HEs⟩
                        case measure => simp [intOf]; omega
                      · have g3 : ((i : Int) == (n : Int)) = false := by rw [beq_eq_false_iff_ne]; omega
                        have g4 : (i == n) = false := by rw [beq_eq_false_iff_ne]; exact hin
                        rcases ieq (M4 i c) 0 with ⟨g1, d1, _⟩ | ⟨g1, d1, _⟩
                        · have HEs := Lib.hid (HE.out.skip (.inr g1))
                          generalize M4 i c = mic at *
                          go_wp2
                          go_roundw
                          case rel => exact ⟨i + 1, M4, v, by omega, by go_num, rfl, HD, HO, HEs⟩
                          case measure => simp [intOf]; omega
                        · have f1 : (M4 i c == 0) = false := by rw [beq_eq_false_iff_ne]; exact g1
                          have HEs : Hid (RdE p j N M0 (addT p M4 i n ((p : Int) - M4 i c) 0 j) c A (i + 1)) := Lib.hid (by
                            have := HE.out.step hp hcC (by rw [HL.out]; exact hnl) hil (by rw [HL.out]; exact hin)
                            rwa [HL.out] at this)
                          have HDs : Hid (BoxM b m go g gc N j p j v.val hd' r' cp' (addT p M4 i n ((p : Int) - M4 i c) 0 0)) := Lib.hid (by rw [addT_start]; exact HD.out)
                          obtain ⟨tt, htt⟩ : ∃ tt, tt = M4 i c := ⟨_, rfl⟩
                          rw [← htt] at ei hsi g1 d1 f1 HEs HDs
                          clear htt
                          have w0 := IntWalk.i64_in ((p : Int) - tt) (by omega)
                          go_wp2
                          clear b2 ti ei f1 d1
                          go_loopw [174] (fun jj wr => ∃ (j' : Nat) (v : Later b X), j' ≤ j ∧ jj = .int .i64 j' ∧ wr = v.val ∧ Hid (BoxM b m go g gc N j p j v.val hd' r' cp' (addT p M4 i n ((p : Int) - tt) 0 j')) ∧ Hid (m ≤ v.val.heap.size ∧ Own m v.val ada cpa (ints A))) (fun jj _ => j - (intOf jj).toNat)
                          case atStart => exact ⟨0, v, by omega, by go_num, rfl, HDs, HO⟩
                          case round =>
                            clear HDs HO HD v
                            obtain ⟨q', v, hq', rfl, rfl, HD, HO⟩ := hrel
                            by_cases hql : q' < j
                            · have hsi2 := HE.out.st.small i q' hil hql
                              have hsk2 := HE.out.st.small n q' hnl hql
                              have ms := mul_small (a := (p : Int) - tt) (b := M4 n q') (by omega) (by omega)
                              have w2 := IntWalk.i64_in (((p : Int) - tt) * M4 n q') (by omega)
                              have w3 := IntWalk.i64_in (M4 i q' + ((p : Int) - tt) * M4 n q') (by omega)
                              have hp0 : (p : Int) ≠ 0 := by omega
                              have hpn : p ≠ 0 := by omega
                              obtain ⟨nn, hnn⟩ : ∃ nn, nn = (M4 i q' + ((p : Int) - tt) * M4 n q') % (p : Int) := ⟨_, rfl⟩
                              have tm : Int.tmod (M4 i q' + ((p : Int) - tt) * M4 n q') (p : Int) = nn := by rw [hnn]; exact Int.tmod_eq_emod_of_nonneg (by omega)
                              have a0 : ∀ w : Later v.val.heap.size v.val, w.val.cell? ⟨go, 0, none⟩ = some (.int .i64 p) := fun w => (HD.out.keep w.below).c0
                              have a2 : ∀ w : Later v.val.heap.size v.val, w.val.cell? ⟨go, 2, none⟩ = some (.slice (some ⟨g, 0, none⟩) N gc) := fun w => (HD.out.keep w.below).c2
                              have ai : ∀ w : Later v.val.heap.size v.val, w.val.cell? ⟨g, i, none⟩ = some (.slice (some ⟨r' i, 0, none⟩) j (cp' i)) := fun w => (HD.out.keep w.below).t hil
                              have ak : ∀ w : Later v.val.heap.size v.val, w.val.cell? ⟨g, n, none⟩ = some (.slice (some ⟨r' n, 0, none⟩) j (cp' n)) := fun w => (HD.out.keep w.below).t hnl
                              have e1 : ∀ w : Later v.val.heap.size v.val, w.val.cell? ⟨r' i, q', none⟩ = some (.int .i64 (M4 i q')) := fun w => by
                                have := (HD.out.keep w.below).e hil hql
                                rwa [addT_past (by omega)] at this
                              have ek : ∀ w : Later v.val.heap.size v.val, w.val.cell? ⟨r' n, q', none⟩ = some (.int .i64 (M4 n q')) := fun w => by
                                have := (HD.out.keep w.below).e hnl hql
                                rwa [addT_other (fun e => hin e.symm)] at this
                              have fi : ∀ w : Later v.val.heap.size v.val, w.val.frozen? ⟨r' i, q', none⟩ = false := fun w => (HD.out.keep w.below).fz hil q'
                              have HDn : Hid (∀ w : Later v.val.heap.size v.val, BoxM b m go g gc N j p j (w.val.setCell ⟨r' i, q', none⟩ (.int .i64 nn)) hd' r' cp' (addT p M4 i n ((p : Int) - tt) 0 (q' + 1))) := Lib.hid (fun w => by
                                have := (HD.out.keep w.below).set hil q' nn
                                rw [← addT_step _ _ _ _ _ _ _ (Nat.zero_le _), ← hnn]
                                exact this)
                              have hri := HD.out.rb hil
                              have hrm := (HD.out.rne i hil).2
                              have HVx : Hid (∀ w : Later v.val.heap.size v.val, ∃ x : Later b X, x.val = w.val.setCell ⟨r' i, q', none⟩ (.int .i64 nn) ∧ (m ≤ x.val.heap.size ∧ Own m x.val ada cpa (ints A))) := Lib.hid (fun w => ⟨(v.to w.val (w.below.mono (by have := v.size; omega))).set ⟨r' i, q', none⟩ hri _, rfl, by
                                refine ⟨by have := w.size; have := HO.out.1; show m ≤ (w.val.setCell ⟨r' i, q', none⟩ (.int .i64 nn)).heap.size; simp; omega, ?_⟩
                                exact (HO.out.2.keep w.below).set hrm _⟩)
                              obtain ⟨z, hz⟩ : ∃ z : Later v.val.heap.size v.val, z.val = v.val := ⟨Later.self _, rfl⟩
                              rw [← hz]
                              clear hz hnn HD HO hsi2 hsk2 ms
                              generalize M4 i q' = mij at *
                              generalize M4 n q' = mkj at *
                              go_wp2
                              refine wp_region_later_tail z 42 (by kernel_rfl) (by kernel_rfl) (fun z2 => ?_)
                              simp only [List.take_succ_cons, List.take_zero, List.drop_succ_cons, List.drop_zero]
                              repeat still_step
                              refine wpStill_nil ?_
                              go_wp2
                              obtain ⟨xx, hxx, hxo⟩ := HVx.out z2
                              go_roundw
                              case rel => exact ⟨q' + 1, xx, by omega, by go_num, hxx.symm, by rw [hxx]; exact Lib.hid (HDn.out z2), Lib.hid hxo⟩
                              case measure => simp [intOf]; omega
                            · have hqe : q' = j := by omega
                              subst hqe
                              go_wp2
                              go_roundw
                              case rel => exact ⟨i + 1, _, v, by omega, by go_num, rfl, HD, HO, HEs⟩
                              case measure => simp [intOf]; omega
                    · have hie : i = N := by omega
                      subst hie
                      have HR5 : Hid (RdS p j i M0 M4 (c + 1) (A ++ [c])) := Lib.hid (HE.out.done (by rw [HL.out]; exact hnl))
                      have HL5 : Hid ((A ++ [c]).length = n + 1) := Lib.hid (by rw [List.length_append, HL.out]; rfl)
                      have hn8 : n + 1 ≤ 17592186044416 := by omega
                      go_wp2_with (first | (at_builtin; refine wpList_pushN (B := m) (W := v.val) (w := v.val) (Below.refl _ _) HO.out.1 rfl _ _ rfl A n HL.out ada cpa c rfl HO.out.2 rfl hn8 ?_; intro u2 ad2 cp2 hown) | fail)
                      obtain ⟨x, hx⟩ : ∃ x : Later b X, x.val = u2.val := ⟨v.to u2.val (u2.below.mono hbm), rfl⟩
                      have HDx : Hid (BoxM b m go g gc i j p j x.val hd' r' cp' M4) := Lib.hid (by rw [hx]; exact HD.out.keep_at u2.below)
                      have HOx : Hid (m ≤ x.val.heap.size ∧ Own m x.val ad2 cp2 (ints (A ++ [c]))) := Lib.hid (by rw [hx]; exact ⟨u2.size, hown⟩)
                      go_roundw
                      case rel => exact ⟨c + 1, n + 1, A ++ [c], M4, ad2, cp2, hd', r', cp', x, by omega, by go_num, by trivial, hx.symm, HL5, HDx, HR5, HOx⟩
                      case measure => simp [intOf]; omega
        · have hqe : q = N := by omega
          subst hqe
          have HRn : Hid (RdS p C q M0 M (c + 1) A) := Lib.hid (HR.out.none (fun k h1 h2 => HZe.out k (by rw [HL.out] at h1; exact h1) h2))
          go_wp2
          go_roundw
          case rel => exact ⟨c + 1, n, A, M, ada, cpa, hd, r, cp, v, by omega, by go_num, by trivial, by trivial, HL, HD, HRn, HO⟩
          case measure => simp [intOf]; omega
    · have hend : c = C ∨ n = N := by omega
      have KC := Lib.hid (c_cloneRows v.val g gc N n C hd r cp M HD.out.mx v.size hnN hN gc)
      have z2 : ∀ y : Later v.val.heap.size v.val, y.val.frozen? ⟨go, 2, none⟩ = false := fun y => (HD.out.box.keep y.below).fz 2
      have z3 : ∀ y : Later v.val.heap.size v.val, y.val.cell? ⟨go, 2, none⟩ = some (.slice (some ⟨g, 0, none⟩) N gc) := fun y => (HD.out.keep y.below).c2
      have HX : Hid (∀ (y : Later v.val.heap.size v.val) (g' gc' : Nat), Mtx b y.val (some ⟨g', 0, none⟩) gc' n C hd r cp M → v.val.heap.size ≤ g' → RetP b X (RdRes b m go N C p M0) (.returned (.slice ada n cpa)) (y.val.setCell ⟨go, 2, none⟩ (.slice (some ⟨g', 0, none⟩) n gc'))) := Lib.hid (fun y g' gc' h1 h2 => by
        refine RetP.of ⟨(v.up y).set ⟨go, 2, none⟩ hgo _, rfl⟩ ?_
        have hl := HL.out
        rw [← hl] at h1 hend ⊢
        exact RdRes.of (HO.out.2.keep y.below) HR.out hc hend (HD.out.box.keep y.below) h1 hgm (fun _ e => by cases e; have := HO.out.1; omega) (fun _ i hi => (HD.out.rne i (by omega)).1))
      rcases hend with rfl | rfl
      · clear HD HR HO HL
        go_wp2_with (first | (go_at_call 58; (with_reducible refine (KC.out).mono ?_); rintro e _ ⟨_, rfl, ⟨g', gc', rfl, hM', hg'⟩, y, rfl⟩) | fail)
        go_ret
        exact HX.out y g' gc' hM' hg'
      · clear HD HR HO HL
        by_cases hcC : c < C
        · go_wp2_with (first | (go_at_call 58; (with_reducible refine (KC.out).mono ?_); rintro e _ ⟨_, rfl, ⟨g', gc', rfl, hM', hg'⟩, y, rfl⟩) | fail)
          go_ret
          exact HX.out y g' gc' hM' hg'
        · have hce : c = C := by omega
          subst hce
          go_wp2_with (first | (go_at_call 58; (with_reducible refine (KC.out).mono ?_); rintro e _ ⟨_, rfl, ⟨g', gc', rfl, hM', hg'⟩, y, rfl⟩) | fail)
          go_ret
          exact HX.out y g' gc' hM' hg'

end Go.Proofs.Ytffnpokceomncaa
