
/-
  rotaref.FirstWays; rotalaw.Rows of lists of numbers.
  How long the ways are. No program in sight.
-/
import Derived.Test.YtnhpefcjgaimeaaPk43
import Derived.Test.YtnhpefcjgaimeaaPk45
import Derived.Test.YtnhpefcjgaimeaaPk15
namespace Go.Proofs.Ytnhpefcjgaimeaa
open Go.RowKit
set_option linter.unusedVariables false

theorem row_of_old {w w' : World} {b : Nat} {row : List Nat} {ad : Option Addr} {cp : Nat} (hb : w.heap.size ≤ b) (h : IntsAt w.heap.size w ad (ints row)) (hc : ad = none → cp = 0) (hbel : Below w.heap.size w w') (h0 : 0 < row.length) : RowV w' b none row ad cp where
  nil := hc
  ints := h.to (⟨w', hbel, hbel.size⟩ : Later w.heap.size w)
  off := fun a ha => by
    obtain ⟨g, off, e, hlt, _⟩ := h (by intro e; have := congrArg List.length e; rw [ints_len] at this; simp at this; rw [this] at h0; simp at h0)
    rw [ha] at e
    cases e
    exact ⟨Nat.lt_of_lt_of_le hlt hbel.size, by show g ≠ b; omega, by simp⟩
theorem OutR.rows {b : Nat} {w : World} {ad : Option Addr} {len cp : Nat} {rows : Rws} (h : OutR b w ad len cp rows) : RowsR w.heap.size w ad rows := fun i hi => by
  obtain ⟨g, ad', cp', e, h1, h2, h3, h4⟩ := h.at0 i hi
  exact ⟨g, 0, ad', cp', e, h1, by rw [Nat.zero_add]; exact h3, h4.ints⟩

set_option maxRecDepth 100000 in
set_option maxHeartbeats 8000000 in
theorem c_firstWays {B : Nat} {W : World} (u : Later B W) (n fr tw : Nat) (es : List (Int × Int)) (a : Option Addr) (cap : Nat) (ok : Bool) (rows : Rws) (h : EdgesAt B W a es) (hG : isGraph (n : Int) es) (hfr : fr < bit n) (htw : tw < bit n)
    (hr : (waysF n (edB es) tw (elems fr) 0 = some rows ∧ ok = true) ∨ (waysF n (edB es) tw (elems fr) 0 = none ∧ ok = false ∧ rows = [])) :
    Calls Try.prog 9 #[.agg #[.int .i64 n, .slice a es.length cap], .int .i64 fr, .int .i64 tw] u.val (RetP B W (fun v w => ∃ ad cp, v = .tuple #[.slice ad rows.length cp, .bool ok] ∧ RowsR w.heap.size w ad rows)) := by
  have hB := u.size
  have hn7 : n ≤ 7 := by have := hG.2.1; omega
  have hbn := bit_le n (by omega)
  have k1 : (u.val.alloc (.cells #[.int .i64 n, .slice a es.length cap] 24)).heap.size = u.val.heap.size + 1 := by simp
  have HX1 : Hid (Two ((u.val.alloc (.cells #[.int .i64 n, .slice a es.length cap] 24)).alloc (.cells #[.int .i64 tw] 3)) u.val.heap.size 24 (.int .i64 n) (.slice a es.length cap)) := Lib.hid ((Two.new u.val _ _ _).keep ((Below.refl _ _).alloc (Nat.le_refl _) _))
  have HX2 : Hid (RowAt1 ((u.val.alloc (.cells #[.int .i64 n, .slice a es.length cap] 24)).alloc (.cells #[.int .i64 tw] 3)) (u.val.heap.size + 1) 3 (.int .i64 tw)) := Lib.hid (by
    have h1 : RowAt1 ((u.val.alloc (.cells #[.int .i64 n, .slice a es.length cap] 24)).alloc (.cells #[.int .i64 tw] 3)) (u.val.alloc (.cells #[.int .i64 n, .slice a es.length cap] 24)).heap.size 3 (.int .i64 tw) := heap_alloc_new (u.val.alloc (.cells #[.int .i64 n, .slice a es.length cap] 24)) _
    rwa [k1] at h1)
  have HYs : Hid (((u.val.alloc (.cells #[.int .i64 n, .slice a es.length cap] 24)).alloc (.cells #[.int .i64 tw] 3)).heap.size = u.val.heap.size + 2) := Lib.hid (by simp)
  have HVB : Hid (∀ v : Later ((u.val.alloc (.cells #[.int .i64 n, .slice a es.length cap] 24)).alloc (.cells #[.int .i64 tw] 3)).heap.size ((u.val.alloc (.cells #[.int .i64 n, .slice a es.length cap] 24)).alloc (.cells #[.int .i64 tw] 3)), ∀ w : World, Below ((u.val.alloc (.cells #[.int .i64 n, .slice a es.length cap] 24)).alloc (.cells #[.int .i64 tw] 3)).heap.size v.val w → ∃ x : Later B W, x.val = w) := Lib.hid (fun v w hb => ⟨(((u.alloc _).alloc _).up v).to w (hb.mono (by have := u.size; simp; omega)), rfl⟩)
  have HI : Hid (EdgesAt ((u.val.alloc (.cells #[.int .i64 n, .slice a es.length cap] 24)).alloc (.cells #[.int .i64 tw] 3)).heap.size ((u.val.alloc (.cells #[.int .i64 n, .slice a es.length cap] 24)).alloc (.cells #[.int .i64 tw] 3)) a es) := Lib.hid (h.to ((u.alloc _).alloc _))
  have HG := Lib.hid hG
  have HR := Lib.hid hr
  have hp2 : ∀ (args : Array Value) (w : World), (callFunc 18 args).run Try.prog w = .ok (.enter 18 args) w := fun _ _ => by kernel_rfl
  clear h hG hr k1
  go_enter Try.func9, Try.ntmps9
  go_upto_region 1 with fail
  generalize ((u.val.alloc (.cells #[.int .i64 n, .slice a es.length cap] 24)).alloc (.cells #[.int .i64 tw] 3)) = Y at *
  generalize u.val.heap.size = gu at *
  have hgY : gu + 2 ≤ Y.heap.size := by have := HYs.out; omega
  have q1 : ∀ v : Later Y.heap.size Y, v.val.cell? ⟨gu, 0, none⟩ = some (.int .i64 n) := fun v => (HX1.out.keep v.below).c0
  have q2 : ∀ v : Later Y.heap.size Y, v.val.cell? ⟨gu, 1, none⟩ = some (.slice a es.length cap) := fun v => (HX1.out.keep v.below).c1
  have q3 : ∀ v : Later Y.heap.size Y, v.val.cell? ⟨gu + 1, 0, none⟩ = some (.int .i64 tw) := fun v => (HX2.out.keep v.below).c0
  obtain ⟨z, hzz⟩ : ∃ z : Later Y.heap.size Y, z.val = Y := ⟨Later.self _, rfl⟩
  have KF := Lib.hid (c_elements z fr (by omega))
  rw [← hzz]
  clear hzz
  go_upto_region 2 with (first | (go_at_call 17; (with_reducible refine (KF.out).mono ?_); rintro e _ ⟨_, rfl, ⟨al, cpl, rfl, hOl⟩, v0, rfl⟩))
  clear KF z
  have hsf := fun (a : Addr) (c : Array Value) (w : World) => run_store Try.prog w a (.func (.func 18) #[] c) .plain rfl
  have hvs := v0.size
  have j1 : (v0.val.alloc (.cells #[.slice al (ints (elems fr)).length cpl] 43)).heap.size = v0.val.heap.size + 1 := by simp
  have j2 : ((v0.val.alloc (.cells #[.slice al (ints (elems fr)).length cpl] 43)).alloc (.cells #[.slice none 0 0] 29)).heap.size = v0.val.heap.size + 1 + 1 := by simp
  have HZs : Hid ((((v0.val.alloc (.cells #[.slice al (ints (elems fr)).length cpl] 43)).alloc (.cells #[.slice none 0 0] 29)).alloc (.cells #[.func (.func 18) #[] #[.pointer (some ⟨v0.val.heap.size, 0, none⟩), .pointer (some ⟨gu, 0, none⟩), .pointer (some ⟨gu + 1, 0, none⟩), .pointer (some ⟨v0.val.heap.size + 1, 0, none⟩), .pointer (some ⟨v0.val.heap.size + 1 + 1, 0, none⟩)]] 28)).heap.size = v0.val.heap.size + 3) := Lib.hid (by simp)
  have HZ1 : Hid (RowAt1 (((v0.val.alloc (.cells #[.slice al (ints (elems fr)).length cpl] 43)).alloc (.cells #[.slice none 0 0] 29)).alloc (.cells #[.func (.func 18) #[] #[.pointer (some ⟨v0.val.heap.size, 0, none⟩), .pointer (some ⟨gu, 0, none⟩), .pointer (some ⟨gu + 1, 0, none⟩), .pointer (some ⟨v0.val.heap.size + 1, 0, none⟩), .pointer (some ⟨v0.val.heap.size + 1 + 1, 0, none⟩)]] 28)) v0.val.heap.size 43 (.slice al (ints (elems fr)).length cpl)) := Lib.hid (by
    have h1 : RowAt1 (v0.val.alloc (.cells #[.slice al (ints (elems fr)).length cpl] 43)) v0.val.heap.size 43 (.slice al (ints (elems fr)).length cpl) := heap_alloc_new _ _
    exact (h1.keep ((Below.refl _ _).alloc (Nat.le_refl _) _)).keep ((Below.refl _ _).alloc (Nat.le_refl _) _))
  have HZ2 : Hid (RowAt1 (((v0.val.alloc (.cells #[.slice al (ints (elems fr)).length cpl] 43)).alloc (.cells #[.slice none 0 0] 29)).alloc (.cells #[.func (.func 18) #[] #[.pointer (some ⟨v0.val.heap.size, 0, none⟩), .pointer (some ⟨gu, 0, none⟩), .pointer (some ⟨gu + 1, 0, none⟩), .pointer (some ⟨v0.val.heap.size + 1, 0, none⟩), .pointer (some ⟨v0.val.heap.size + 1 + 1, 0, none⟩)]] 28)) (v0.val.heap.size + 1) 29 (.slice none 0 0)) := Lib.hid (by
    have h1 : RowAt1 ((v0.val.alloc (.cells #[.slice al (ints (elems fr)).length cpl] 43)).alloc (.cells #[.slice none 0 0] 29)) (v0.val.alloc (.cells #[.slice al (ints (elems fr)).length cpl] 43)).heap.size 29 (.slice none 0 0) := heap_alloc_new _ _
    rw [j1] at h1
    exact h1.keep ((Below.refl _ _).alloc (Nat.le_refl _) _))
  have HZ3 : Hid (RowAt1 (((v0.val.alloc (.cells #[.slice al (ints (elems fr)).length cpl] 43)).alloc (.cells #[.slice none 0 0] 29)).alloc (.cells #[.func (.func 18) #[] #[.pointer (some ⟨v0.val.heap.size, 0, none⟩), .pointer (some ⟨gu, 0, none⟩), .pointer (some ⟨gu + 1, 0, none⟩), .pointer (some ⟨v0.val.heap.size + 1, 0, none⟩), .pointer (some ⟨v0.val.heap.size + 1 + 1, 0, none⟩)]] 28)) (v0.val.heap.size + 1 + 1) 28 (.func (.func 18) #[] #[.pointer (some ⟨v0.val.heap.size, 0, none⟩), .pointer (some ⟨gu, 0, none⟩), .pointer (some ⟨gu + 1, 0, none⟩), .pointer (some ⟨v0.val.heap.size + 1, 0, none⟩), .pointer (some ⟨v0.val.heap.size + 1 + 1, 0, none⟩)])) := Lib.hid (by
    have h1 : RowAt1 (((v0.val.alloc (.cells #[.slice al (ints (elems fr)).length cpl] 43)).alloc (.cells #[.slice none 0 0] 29)).alloc (.cells #[.func (.func 18) #[] #[.pointer (some ⟨v0.val.heap.size, 0, none⟩), .pointer (some ⟨gu, 0, none⟩), .pointer (some ⟨gu + 1, 0, none⟩), .pointer (some ⟨v0.val.heap.size + 1, 0, none⟩), .pointer (some ⟨v0.val.heap.size + 1 + 1, 0, none⟩)]] 28)) ((v0.val.alloc (.cells #[.slice al (ints (elems fr)).length cpl] 43)).alloc (.cells #[.slice none 0 0] 29)).heap.size 28 (.func (.func 18) #[] #[.pointer (some ⟨v0.val.heap.size, 0, none⟩), .pointer (some ⟨gu, 0, none⟩), .pointer (some ⟨gu + 1, 0, none⟩), .pointer (some ⟨v0.val.heap.size + 1, 0, none⟩), .pointer (some ⟨v0.val.heap.size + 1 + 1, 0, none⟩)]) := heap_alloc_new _ _
    rwa [j2] at h1)
  have HRl : Hid (0 < (elems fr).length → RowV (((v0.val.alloc (.cells #[.slice al (ints (elems fr)).length cpl] 43)).alloc (.cells #[.slice none 0 0] 29)).alloc (.cells #[.func (.func 18) #[] #[.pointer (some ⟨v0.val.heap.size, 0, none⟩), .pointer (some ⟨gu, 0, none⟩), .pointer (some ⟨gu + 1, 0, none⟩), .pointer (some ⟨v0.val.heap.size + 1, 0, none⟩), .pointer (some ⟨v0.val.heap.size + 1 + 1, 0, none⟩)]] 28)) (v0.val.heap.size + 1) none (elems fr) al cpl) := Lib.hid (row_of_old (by omega) hOl.1 hOl.2 ((((Below.refl _ _).alloc (Nat.le_refl _) _).alloc (by simp) _).alloc (by simp; omega) _))
  have hcl := hOl.2
  go_upto_region 5 with fail
  obtain ⟨z1, hz1⟩ : ∃ z : Later Y.heap.size Y, z.val = (((v0.val.alloc (.cells #[.slice al (ints (elems fr)).length cpl] 43)).alloc (.cells #[.slice none 0 0] 29)).alloc (.cells #[.func (.func 18) #[] #[.pointer (some ⟨v0.val.heap.size, 0, none⟩), .pointer (some ⟨gu, 0, none⟩), .pointer (some ⟨gu + 1, 0, none⟩), .pointer (some ⟨v0.val.heap.size + 1, 0, none⟩), .pointer (some ⟨v0.val.heap.size + 1 + 1, 0, none⟩)]] 28)) := ⟨((v0.alloc _).alloc _).alloc _, rfl⟩
  rw [← hz1] at HZ1 HZ2 HZ3 HZs HRl ⊢
  generalize v0.val.heap.size = g at *
  rw [ints_len] at HZ1
  clear hz1 j1 j2 v0 hOl
  have H : FwOk (g + 1) z1.val n es a cap fr tw g gu (gu + 1) (g + 1 + 1) al cpl := {
    lt := by have := HZs.out; omega
    ne := by omega
    graph := HG.out
    hfr := hfr
    htw := htw
    edges := (HI.out.later z1.below).mono (by omega)
    cl := HZ1.out.c0
    list := HRl.out
    cg0 := q1 z1
    cg1 := q2 z1
    ct := q3 z1
    cn := HZ3.out.c0 }
  have KN := c_nextR (g + 1) z1.val n es a cap fr tw g gu (gu + 1) (g + 1 + 1) al cpl H (elems fr).length 0 (by omega) z1.val 0 [] none 0 0 (Kept.refl _ _ _) (OutR.start HZ2.out) rfl rfl (by omega)
  rw [List.drop_zero] at KN
  have cnx : z1.val.cell? ⟨g + 1 + 1, 0, none⟩ = some (.func (.func 18) #[] #[.pointer (some ⟨g, 0, none⟩), .pointer (some ⟨gu, 0, none⟩), .pointer (some ⟨gu + 1, 0, none⟩), .pointer (some ⟨g + 1, 0, none⟩), .pointer (some ⟨g + 1 + 1, 0, none⟩)]) := HZ3.out.c0
  have HVz : Hid (∀ w : World, Kept (g + 1) none z1.val w → ∃ x : Later B W, x.val = w) := Lib.hid (fun w hk => HVB.out z1 w (hk.below z1.size (by omega) (fun g e => by cases e)))
  have KN3 : Hid (Calls Try.prog 18 #[.int .i64 0, .int .i64 0, .pointer (some ⟨g, 0, none⟩), .pointer (some ⟨gu, 0, none⟩), .pointer (some ⟨gu + 1, 0, none⟩), .pointer (some ⟨g + 1, 0, none⟩), .pointer (some ⟨g + 1 + 1, 0, none⟩)] z1.val (fun ee w' => ∃ (x : Later B W), ee = .returned (.bool ok) ∧ w' = x.val ∧ ((ok = true ∧ ∃ ad cp, x.val.cell? ⟨g + 1, 0, none⟩ = some (.slice ad rows.length cp) ∧ RowsR x.val.heap.size x.val ad rows) ∨ (ok = false ∧ rows = [])))) := Lib.hid (KN.mono (by
    rintro ee w' ⟨hk, hh⟩
    obtain ⟨x, rfl⟩ := HVz.out _ hk
    rcases HR.out with ⟨h1, h2⟩ | ⟨h1, h2, h3⟩ <;> rw [h1] at hh
    · rcases hh with ⟨r, ad, cp, e1, rfl, e3⟩ | ⟨e1, _⟩
      · cases e1
        rw [List.nil_append] at e3
        exact ⟨x, by rw [h2], rfl, .inl ⟨h2, ad, cp, e3.box.c0, e3.rows⟩⟩
      · cases e1
    · rcases hh with ⟨r, ad, cp, e1, _⟩ | ⟨_, rfl, _⟩
      · cases e1
      · exact ⟨x, by rw [h2], rfl, .inr ⟨h2, h3⟩⟩))
  clear KN H HZ1 HZ2 HZ3 HR HG HI q1 q2 q3 HRl hcl
  cases ok with
  | true =>
    go_upto_region 6 with (first | (go_at_call 18; (with_reducible refine (KN3.out).mono ?_); rintro ee _ ⟨x, rfl, rfl, hh⟩))
    rcases hh with ⟨_, ad, cp, hc, hR⟩ | ⟨h2, _⟩
    · clear cnx KN3
      go_wp2
      go_ret2
      exact RetP.of ⟨x, rfl⟩ ⟨ad, cp, rfl, hR⟩
    · cases h2
  | false =>
    go_upto_region 6 with (first | (go_at_call 18; (with_reducible refine (KN3.out).mono ?_); rintro ee _ ⟨x, rfl, rfl, hh⟩))
    rcases hh with ⟨h2, _⟩ | ⟨_, h3⟩
    · cases h2
    · clear cnx KN3
      go_wp2
      go_ret2
      rw [h3]
      exact RetP.of ⟨x, rfl⟩ ⟨none, 0, rfl, fun i hi => by simp at hi⟩

/-- rows of numbers that are the same -/
theorem c_rowsI {B : Nat} {W : World} (u : Later B W) (rows : Rws) (a b : Option Addr) (ca cb : Nat) (ha : RowsR B W a rows) (hb : RowsR B W b rows) (hlen : rows.length ≤ 1048576) (hl : ∀ i, i < rows.length → (rows.getD i []).length ≤ 1048576) :
    Calls Try.prog 14 #[.slice a rows.length ca, .slice b rows.length cb] u.val (Ret B W (.bool true)) := by
  have HA := Lib.hid ha
  have HB := Lib.hid hb
  have HL := Lib.hid hl
  clear ha hb hl
  go_enter Try.func14, Try.ntmps14
  go_wp2
  go_loopw [13] (fun i wr => ∃ (k : Nat) (u : Later B W), k ≤ rows.length ∧ i = .int .i64 k ∧ wr = u.val) (fun i _ => rows.length - (intOf i).toNat)
  case atStart => exact ⟨0, u, by omega, rfl, rfl⟩
  case round =>
    obtain ⟨k, u, hk, rfl, rfl⟩ := hrel
    by_cases hlt : k < rows.length
    · obtain ⟨p, off, ad, cp, rfl, hp, hc, hI⟩ := HA.out k hlt
      obtain ⟨q, off', ad', cp', rfl, hq, hc', hI'⟩ := HB.out k hlt
      have c0 : ∀ u : Later B W, u.val.cell? ⟨p, off + k, none⟩ = some (.slice ad (ints (rows.getD k [])).length cp) := fun u => by rw [World.cell?_of_block (w := W) (u.below.block p hp)]; exact hc
      have c1 : ∀ u : Later B W, u.val.cell? ⟨q, off' + k, none⟩ = some (.slice ad' (ints (rows.getD k [])).length cp') := fun u => by rw [World.cell?_of_block (w := W) (u.below.block q hq)]; exact hc'
      have KS := Lib.hid (fun v : Later B W => c_same v (ints (rows.getD k [])) ad ad' cp cp' hI hI' (by rw [ints_len]; have := HL.out k hlt; omega))
      generalize (ints (rows.getD k [])).length = m at *
      clear hc hc' hI hI'
      go_wp2
      refine wp_region_later u (by kernel_rfl) (by kernel_rfl) (fun _ => ?_)
      repeat (first | go_big_quiet_step (((go_at_call 31; exact KS.out _))) | (refine wpQuiet_step (fun K hK => ?_); go_simp; refine ⟨_, fun _ => rfl, ?_⟩; refine hK _ ?_; clear hK K))
      refine wpQuiet_nil ?_
      intro u
      go_wp2
      go_roundw
      case rel => exact ⟨k+1, u, by omega, by go_num, rfl⟩
      case measure => simp [intOf]; omega
    · go_wp2
      go_ret
      exact Ret.mk u rfl

end Go.Proofs.Ytnhpefcjgaimeaa

namespace Go.Proofs.Ytnhpefcjgaimeaa
set_option linter.unusedVariables false

theorem fstTo_get {α : Type} {f : Nat → Option α} {x : α} : ∀ k, fstTo f k = some x → ∃ j, f j = some x
  | 0, h => by cases h
  | k + 1, h => by
    simp only [fstTo] at h
    cases hf : fstTo f k with
    | some y => rw [hf] at h; cases h; exact fstTo_get k hf
    | none => rw [hf] at h; exact ⟨k, h⟩
theorem onF_len {n : Nat} {ed : Nat → Nat → Bool} {tw : Nat} {nx : Nat → Option Rws} : ∀ (f : Nat) (way : List Nat) (used : Nat) (r : Rws), onF n ed tw nx f way used = some r → ∃ w' r' u', r = w' :: r' ∧ nx u' = some r' ∧ w'.length ≤ way.length + f
  | 0, way, used, r, h => by cases h
  | f + 1, way, used, r, h => by
    by_cases hc : tw.testBit (lastN way) = false ∨ nx used = none
    · rw [onF_else hc] at h
      obtain ⟨w, hw⟩ := fstTo_get _ h
      unfold onStep at hw
      split at hw
      · cases hw
      · obtain ⟨w', r', u', e1, e2, e3⟩ := onF_len f _ _ _ hw
        refine ⟨w', r', u', e1, e2, ?_⟩
        rw [List.length_append] at e3
        simp at e3
        omega
    · have h1 : tw.testBit (lastN way) = true := by
        cases hb : tw.testBit (lastN way)
        · exact absurd (.inl hb) hc
        · rfl
      cases hn : nx used with
      | none => exact absurd (.inr hn) hc
      | some r0 =>
        rw [onF_hit h1 hn] at h
        cases h
        exact ⟨way, r0, used, rfl, hn, by omega⟩
theorem waysF_len {n : Nat} {ed : Nat → Nat → Bool} {tw : Nat} : ∀ (ls : List Nat) (gone : Nat) (r : Rws), waysF n ed tw ls gone = some r → r.length = ls.length ∧ ∀ x, x ∈ r → x.length ≤ 9
  | [], gone, r, h => by cases h; exact ⟨rfl, fun x hx => by cases hx⟩
  | v :: ls, gone, r, h => by
    simp only [waysF] at h
    split at h
    · cases h
    · obtain ⟨w', r', u', rfl, e2, e3⟩ := onF_len _ _ _ _ h
      obtain ⟨h1, h2⟩ := waysF_len ls u' r' e2
      refine ⟨by simp [h1], fun x hx => ?_⟩
      rcases List.mem_cons.1 hx with rfl | hx
      · simpa using e3
      · exact h2 x hx
theorem rows_get {r : Rws} {m : Nat} (h : ∀ x, x ∈ r → x.length ≤ m) : ∀ i, i < r.length → (r.getD i []).length ≤ m := fun i hi => by
  rw [List.getD_eq_getElem?_getD, List.getElem?_eq_getElem hi]
  exact h _ (List.getElem_mem hi)

end Go.Proofs.Ytnhpefcjgaimeaa
