
/-
  Rows appended, read as lists of lists; what the three answers of the field's rows have to do with one another, plainly.
-/
import Derived.Test.YtffnpokceomncaaFrF
import Derived.Test.YtffnpokceomncaaFrD
import Derived.Laws.AppendOwnNone
namespace Go.Proofs.Ytffnpokceomncaa
open Go.RowKit
set_option linter.unusedVariables false

/-- append of rows to a row of the call's own, whichever they are -/
theorem wp_appR {w : World} {o : Oper} {a : Act} {K : Act → World → Prop} {Q : Exit → Act → World → Prop} (s x : Operand)
    (ho : o.op = .call { callee := .builtin .append, args := #[s, x], argTypes := #[22, 22] })
    (base : Nat) (hbase : base ≤ w.heap.size) (ad0 : Option Addr) (n0 c0 : Nat) (vs0 : List Value) (hs : a.eval s = .slice ad0 n0 c0) (hown : w.ownsRow base 35 1 (.slice ad0 n0 c0) n0 vs0)
    (ax : Option Addr) (m cx : Nat) (vs : List Value) (hx : a.eval x = .slice ax m cx) (hl : vs.length = m) (hv : ∀ A, ax = some A → ∀ j u, vs[j]? = some u → w.cell? (A.add j) = some u) (h1 : ∀ u ∈ vs, u.oneCell' = true) (h0 : ax = none → m = 0 ∧ cx = 0)
    (k : Nat) (hk : n0 + m = k) (hlen : k ≤ 1000000)
    (h : ∀ (u' : Later base w) (ad' : Option Addr) (c' : Nat), u'.val.ownsRow base 35 1 (.slice ad' k c') k (vs0 ++ vs) → K (a.put o.dst (.slice ad' k c')) u'.val) : o.wp Try.prog a w K Q := by
  obtain ⟨i0, hi, hz0, hz1, hz2⟩ := info_parts info_row
  subst hk
  cases ax with
  | none =>
    obtain ⟨rfl, rfl⟩ := h0 rfl
    have hvs : vs = [] := List.length_eq_zero_iff.1 hl
    subst hvs
    have hrun := run_append_owned_none (P := Try.prog) (w := w) base 22 o.type 35 i0 1 Try.underlying22 hi (.slice ad0 n0 c0) n0 vs0 hown
    have hh := h ⟨w, Below.refl _ _, hbase⟩ ad0 c0 (by simpa using hown)
    unfold Oper.wp
    simp [execOp, ho, resolve, invoke, builtin, hs, hx, hrun, Result.andThen]
    exact hh
  | some A =>
    refine wp_append_own w s x 22 ho base 35 i0 (.slice none 0 0) 1 24 Try.underlying22 hi hz0 hz1 hz2 rfl (by decide) (.slice ad0 n0 c0) n0 vs0 hs hown A m cx vs hx (by omega) (hv A rfl) h1 (by unfold maxLen; omega) (by omega) hbase (fun v' w' h2 h3 h4 => ?_)
    have hbel : Below base w w' := (Below.refl base w).grown h3 hbase (fun k hk => (World.ownsRow.lt hown k hk).1)
    have hsz : base ≤ w'.heap.size := by have := hbel.size; omega
    rcases h2.2 with ⟨e, hn⟩ | ⟨g, c', cur, e, _⟩
    · subst e
      have hh := h ⟨w', hbel, hsz⟩ none 0 (by rw [hn] at h2 ⊢; exact h2)
      rw [hn] at hh
      exact hh
    · subst e
      exact h ⟨w', hbel, hsz⟩ (some ⟨g, 0, none⟩) c' h2

/-- the slices of rows that are read -/
theorem RowsI.heads {B : Nat} {W : World} {ad : Option Addr} {rows : Lls} (h : RowsI B W ad rows) : ∃ vs : List Value, vs.length = rows.length ∧ (∀ u ∈ vs, u.oneCell' = true) ∧ (∀ i, i < rows.length → ∃ ad' cp', vs[i]? = some (.slice ad' (rows.getD i []).length cp') ∧ IntsAt B W ad' (rows.getD i []) ∧ (ad' = none → cp' = 0)) ∧ ∀ u : Later B W, ∀ A, ad = some A → ∀ j v, vs[j]? = some v → u.val.cell? (A.add j) = some v := by
  by_cases hne : rows = []
  · subst hne
    exact ⟨[], rfl, fun u hu => (by cases hu), fun i hi => by simp at hi, fun u A _ j v hj => by simp at hj⟩
  · obtain ⟨b, off, rfl, hb, hr⟩ := h hne
    refine ⟨(List.range rows.length).map (fun i => (W.cell? ⟨b, off + i, none⟩).getD undef), by simp, fun u hu => ?_, fun i hi => ?_, fun u A hA j v hj => ?_⟩
    · obtain ⟨i, hi, rfl⟩ := List.mem_map.1 hu
      obtain ⟨ad', cp', hc, _⟩ := hr i (by simpa using hi)
      rw [hc]; rfl
    · obtain ⟨ad', cp', hc, hI, hn⟩ := hr i hi
      exact ⟨ad', cp', by simp [hi, hc], hI, hn⟩
    · cases hA
      have hjl : j < rows.length := by
        have := (List.getElem?_eq_some_iff.1 hj).1
        simpa using this
      have e : (⟨b, off, none⟩ : Addr).add j = ⟨b, off + j, none⟩ := by unfold Addr.add; split <;> simp_all
      obtain ⟨ad', cp', hc, _⟩ := hr j hjl
      rw [e, World.cell?_of_block (w := W) (u.below.block b hb)]
      rw [← hj]
      simp [hjl, hc]
theorem RowsI.of_own {base : Nat} {w : World} {ad : Option Addr} {c n : Nat} {vs : List Value} {rows : Lls} (h : w.ownsRow base 35 1 (.slice ad n c) n vs) (hl : rows.length = n) (hv : ∀ i, i < n → ∃ ad' cp', vs[i]? = some (.slice ad' (rows.getD i []).length cp') ∧ IntsAt w.heap.size w ad' (rows.getD i []) ∧ (ad' = none → cp' = 0)) : RowsI w.heap.size w ad rows := fun hne => by
  rcases h.2 with ⟨e, hn⟩ | ⟨g, c', cur, e, _⟩
  · exact absurd (List.length_eq_zero_iff.1 (hl.trans hn)) hne
  · simp only [Value.slice.injEq] at e
    obtain ⟨rfl, _, rfl⟩ := e
    refine ⟨g, 0, rfl, (World.ownsRow.lt h g rfl).2, fun i hi => ?_⟩
    obtain ⟨ad', cp', h1, h2, h3⟩ := hv i (by omega)
    exact ⟨ad', cp', by rw [Nat.zero_add, World.ownsRow.cellAt h i (by omega)]; exact h1, h2, h3⟩

section
variable {p C N n r : Nat} {M0 M : Nat → Nat → Int}
theorem RdSt.rank (h : RdSt p C N M0 n M) (hp : PrimeP p) : RankIs p C N M0 n := by
  obtain ⟨A, cc, rfl, hR, hcc, hend⟩ := h
  exact hR.rank hp hcc hend
theorem RdSt.le (h : RdSt p C N M0 n M) : n ≤ N := by
  obtain ⟨A, cc, rfl, hR, hcc, hend⟩ := h
  exact hR.le
theorem RdSt.small (h : RdSt p C N M0 n M) : Small p n C M := by
  obtain ⟨A, cc, rfl, hR, hcc, hend⟩ := h
  exact fun i j hi hj => hR.small i j (by have := hR.le; omega) hj
theorem RdSt.isM (h : RdSt p C N M0 n M) (hp : PrimeP p) (hC : C ≤ 8) (hn : n ≤ 6) : isMatrix (p : Int) (C : Int) (mxL n C M) := by
  have hs := h.small
  refine ⟨by unfold PrimeP at hp; omega, by omega, by rw [mxL_len]; exact hn, fun i hi => ?_⟩
  rw [mxL_len] at hi
  rw [mxL_get hi, tabL_len]
  refine ⟨rfl, fun k hk => ?_⟩
  rw [mxL_ent hi hk]
  exact hs i k hi hk
theorem RedP.mxL {A : Nat → Nat} (h : RedP C n M A) : RedP C (mxL n C M).length (ent (mxL n C M)) A := by
  rw [mxL_len]
  exact ⟨h.lt, h.rise, fun i hi => by rw [mxL_ent hi (h.lt i hi)]; exact h.one i hi, fun i j hi hj => by rw [mxL_ent hi (by have := h.lt i hi; omega)]; exact h.zl i j hi hj, fun i k hi hk hne => by rw [mxL_ent hk (h.lt i hi)]; exact h.zc i k hi hk hne⟩
theorem getD_left {l1 l2 : Lls} {i : Nat} (h : i < l1.length) : (l1 ++ l2).getD i [] = l1.getD i [] := by
  rw [List.getD_eq_getElem?_getD, List.getElem?_append_left h, ← List.getD_eq_getElem?_getD]
theorem getD_right {l1 l2 : Lls} {i : Nat} (h : l1.length ≤ i) : (l1 ++ l2).getD i [] = l2.getD (i - l1.length) [] := by
  rw [List.getD_eq_getElem?_getD, List.getElem?_append_right h, ← List.getD_eq_getElem?_getD]
theorem ent_both {rx : Lls} {i j : Nat} (hj : j < C) : ent (mxL n C M ++ rx) i j = if i < n then M i j else ent rx (i - n) j := by
  by_cases h : i < n
  · rw [if_pos h]
    have e := mxL_ent (N := n) (P := M) h hj
    unfold ent at e ⊢
    rw [getD_left (by rw [mxL_len]; exact h)]
    exact e
  · rw [if_neg h]
    unfold ent
    rw [getD_right (by rw [mxL_len]; omega), mxL_len]
theorem rank_both {rx : Lls} (h : RdSt p C rx.length (ent rx) n M) (hp : PrimeP p) (hC : C ≤ 8) (h2 : RankIs p C (n + rx.length) (ent (mxL n C M ++ rx)) r) : r = n := by
  have h1 := h.rank hp
  have hle := h.le
  obtain ⟨A, cc, hA, hR, hcc, hend⟩ := h
  refine h2.uniq hp hC h1 (fun i hi => ?_) (fun i hi => ?_)
  · by_cases e : i < n
    · refine (hR.eq.fwd i (by omega)).cg (fun j hj => Cg.of_eq ?_)
      rw [ent_both hj, if_pos e]
    · refine (InSp.mem (show i - n < rx.length by omega)).cg (fun j hj => Cg.of_eq ?_)
      rw [ent_both hj, if_neg e]
  · refine (InSp.mem (show n + i < n + rx.length by omega)).cg (fun j hj => Cg.of_eq ?_)
    rw [ent_both hj, if_neg (by omega), show n + i - n = i by omega]
theorem ker_facts {A : List Nat} {cc k : Nat} {M2 : Nat → Nat → Int} (hp : PrimeP p) (hR : RdS p C N M0 M cc A) (hcc : cc ≤ C) (hend : cc = C ∨ A.length = N) (h2 : RdSt p C (freeT A C).length (fun i => krn p M A ((freeT A C).getD i 0)) k M2) : k + A.length = C ∧ ∀ i q, i < N → q < k → Cg p (dot C (M0 i) (M2 q)) 0 := by
  have hfl := hR.free_len hcc
  have hF : ∀ i, i < (freeT A C).length → (freeT A C).getD i 0 < C ∧ ∀ k, k < A.length → A.getD k 0 ≠ (freeT A C).getD i 0 := fun i hi => by
    have hm : (freeT A C).getD i 0 ∈ freeT A C := by
      rw [List.getD_eq_getElem?_getD, List.getElem?_eq_getElem hi]
      simp
    have := freeT_lt A C _ hm
    exact ⟨this.1, not_mem_getD this.2⟩
  obtain ⟨A2, cc2, rfl, hR2, hcc2, hend2⟩ := h2
  have hI : Indep p C (freeT A C).length (fun i => krn p M A ((freeT A C).getD i 0)) := krn_indep hF (fun i k hi hk e => by
    rw [List.getD_eq_getElem?_getD, List.getD_eq_getElem?_getD, List.getElem?_eq_getElem hi, List.getElem?_eq_getElem hk] at e
    simp only [Option.getD_some] at e
    have hnd := freeT_nodup A C
    rw [List.Nodup, List.pairwise_iff_getElem] at hnd
    rcases Nat.lt_trichotomy i k with c | c | c
    · exact absurd e (hnd i k hi hk c)
    · exact c
    · exact absurd e.symm (hnd k i hk hi c))
  have hall := hR2.all hp hend2 hI
  refine ⟨by omega, fun i q hi hq => ?_⟩
  rw [dot_comm]
  refine nought_span (hR2.eq.fwd q (by omega)) (fun x hx => ?_)
  rw [dot_comm]
  exact krn_nought hR hcc hend (hF x hx).1 (hF x hx).2 hi
end

end Go.Proofs.Ytffnpokceomncaa
