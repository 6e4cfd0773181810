
/-
  rotaref.Gale, rotaref.Shadow, rotaref.Blocker.
-/
import Derived.Test.YtjpcelldbhdneaaPkPl
import Derived.Test.YtjpcelldbhdneaaMostR
import Derived.Test.YtjpcelldbhdneaaRowL
import Derived.Test.YtjpcelldbhdneaaQTail
import Derived.IntWalk
namespace Go.Proofs.Ytjpcelldbhdneaa
open Go.RowKit
set_option linter.unusedVariables false

theorem galeB_iff {a b : Nat} : galeB a b = true ↔ ∀ i, i < (elems a).length → (elems a).getD i 0 ≤ (elems b).getD i 0 := by
  unfold galeB sz
  rw [List.all_eq_true]
  constructor
  · intro h i hi; exact of_decide_eq_true (h i (by simpa using hi))
  · intro h i hi; exact decide_eq_true (h i (by simpa using hi))

set_option maxRecDepth 100000 in
set_option maxHeartbeats 4000000 in
theorem c_gale {B : Nat} {W : World} (u : Later B W) (a b : Nat) (ha : a < 256) (hb : b < 256) (h : sz a = sz b) :
    Calls Try.prog 94 #[.int .i64 a, .int .i64 b] u.val (Ret B W (.bool (galeB a b))) := by
  have KA := Lib.hid (fun v : Later B W => c_elements v a ha)
  have KB := Lib.hid (fun (B : Nat) (W : World) (v : Later B W) => c_elements v b hb)
  have HG := Lib.hid (@galeB_iff a b)
  have hl : (elems a).length = (elems b).length := h
  have hx8 : (elems a).length ≤ 8 := sz_le a
  clear h
  generalize galeB a b = r at *
  generalize elems a = x at *
  generalize elems b = y at *
  go_enter Try.func94, Try.ntmps94
  go_upto_region 2 with (first | (go_at_call 159; (with_reducible refine (KA.out _).mono ?_); rintro e _ ⟨_, rfl, ⟨ad1, cp1, rfl, hI1, hc1⟩, v1, rfl⟩) | (go_at_call 159; (refine (KB.out _ _ (Later.self v1.val)).mono ?_); rintro e _ ⟨_, rfl, ⟨ad2, cp2, rfl, hI2, hc2⟩, v2, rfl⟩))
  have hX1 : Hid (IntsAt v2.val.heap.size v2.val ad1 (ints x)) := Lib.hid (hI1.to v2)
  have hY1 := Lib.hid hI2
  have HV : Hid (∀ w : Later v2.val.heap.size v2.val, ∃ z : Later B W, z.val = w.val) := Lib.hid (fun w => ⟨(v1.up v2).up w, rfl⟩)
  obtain ⟨z, hz⟩ : ∃ z : Later v2.val.heap.size v2.val, z.val = v2.val := ⟨Later.self _, rfl⟩
  rw [← hz]
  clear hz KA KB hc1 hc2 hI1 hI2
  generalize v2.val = V at *
  have hlx : (ints x).length = x.length := ints_len x
  have hly : (ints y).length = x.length := by rw [ints_len, hl]
  rw [hlx, hly]
  have HLx := Lib.hid hlx
  have HLy := Lib.hid hly
  clear hl hlx hly
  go_wp2
  go_loopw [7] (fun i wr => ∃ (k : Nat) (v : Later V.heap.size V), k ≤ x.length ∧ i = .int .i64 k ∧ wr = v.val ∧ Hid (∀ i, i < k → x.getD i 0 ≤ y.getD i 0)) (fun i _ => x.length - (intOf i).toNat)
  case atStart => exact ⟨0, z, by omega, rfl, rfl, Lib.hid (fun i hi => by omega)⟩
  case round =>
    clear z
    obtain ⟨k, v, hk, rfl, rfl, hf⟩ := hrel
    by_cases hlt : k < x.length
    · obtain ⟨bx, ox, rfl, hbx, hcx⟩ := hX1.out.at (k := k) (by rw [HLx.out]; exact hlt)
      obtain ⟨by', oy, rfl, hby, hcy⟩ := hY1.out.at (k := k) (by rw [HLy.out]; exact hlt)
      have c0 : ∀ w : Later V.heap.size V, w.val.cell? ⟨bx, ox + k, none⟩ = some (.int .i64 ((x.getD k 0 : Nat) : Int)) := fun w => by rw [← ints_getD]; exact hcx w k (by rw [HLx.out]; exact hlt)
      have c1 : ∀ w : Later V.heap.size V, w.val.cell? ⟨by', oy + k, none⟩ = some (.int .i64 ((y.getD k 0 : Nat) : Int)) := fun w => by rw [← ints_getD]; exact hcy w k (by rw [HLy.out]; exact hlt)
      have H1 : Hid (y.getD k 0 < x.getD k 0 → r = false) := Lib.hid (fun h => by
        cases c : r
        · rfl
        · have := HG.out.1 c k hlt; omega)
      have H2 : Hid (x.getD k 0 ≤ y.getD k 0 → ∀ i, i < k + 1 → x.getD i 0 ≤ y.getD i 0) := Lib.hid (fun h i hi => by
        by_cases e : i = k
        · subst e; exact h
        · exact hf.out i (by omega))
      clear hcx hcy hf
      generalize x.getD k 0 = p at *
      generalize y.getD k 0 = q at *
      rcases nlt q p with ⟨g1, d1⟩ | ⟨g1, d1⟩
      · have hr := H1.out (by omega)
        subst hr
        clear H1 H2 g1
        go_wp2
        refine wp_region_later v (by kernel_rfl) (by kernel_rfl) (fun _ => ?_)
        repeat (first | go_big_quiet_step ((fail)) | (refine wpQuiet_step (fun K hK => ?_); go_simp; refine ⟨_, fun _ => rfl, ?_⟩; refine hK _ ?_; clear hK K))
        refine wpQuiet_nil ?_
        intro v
        go_wp2
        go_ret
        exact Ret.of (HV.out v) rfl
      · have HN := Lib.hid (H2.out (by omega))
        clear H1 H2 g1
        go_wp2
        refine wp_region_later v (by kernel_rfl) (by kernel_rfl) (fun _ => ?_)
        repeat (first | go_big_quiet_step ((fail)) | (refine wpQuiet_step (fun K hK => ?_); go_simp; refine ⟨_, fun _ => rfl, ?_⟩; refine hK _ ?_; clear hK K))
        refine wpQuiet_nil ?_
        intro v
        go_wp2
        go_roundw
        case rel => exact ⟨k+1, v, by omega, by go_num, rfl, HN⟩
        case measure => simp [intOf]; omega
    · have hr : r = true := HG.out.2 (fun i hi => hf.out i (by omega))
      subst hr
      go_wp2
      go_ret
      exact Ret.of (HV.out v) rfl

theorem shadB_iff {m : Nat} {L : List Nat} {s : Nat} : shadB m L s = true ↔ ∃ i, i < m ∧ s.testBit i = false ∧ s + bit i ∈ L := by
  unfold shadB
  rw [List.any_eq_true]
  constructor
  · rintro ⟨i, hi, h⟩
    rw [Bool.and_eq_true, Bool.not_eq_true', decide_eq_true_eq] at h
    exact ⟨i, by simpa using hi, h.1, h.2⟩
  · rintro ⟨i, hi, h1, h2⟩
    exact ⟨i, by simpa using hi, by simp [h1, h2]⟩

set_option maxRecDepth 100000 in
set_option maxHeartbeats 4000000 in
theorem c_shadTell {B : Nat} {W : World} (u : Later B W) (m : Nat) (hm : m ≤ 8) (L : List Nat) (hlen : L.length ≤ 1048576) (cap g0 g : Nat) (a : Option Addr) (s : Nat) (hs : s < 256) (h : IntsAt B W a (ints L)) (hg0 : g0 < B) (hg : g < B) (hb0 : W.cell? ⟨g0, 0, none⟩ = some (.int .i64 m)) (hbox : W.cell? ⟨g, 0, none⟩ = some (.slice a (ints L).length cap)) :
    Calls Try.prog 199 #[.int .i64 s, .pointer (some ⟨g0, 0, none⟩), .pointer (some ⟨g, 0, none⟩)] u.val (Ret B W (.bool (shadB m L s))) := by
  have q0 : ∀ u : Later B W, u.val.cell? ⟨g0, 0, none⟩ = some (.int .i64 m) := fun u => by rw [u.cell hg0, hb0]
  have q1 : ∀ u : Later B W, u.val.cell? ⟨g, 0, none⟩ = some (.slice a L.length cap) := fun u => by rw [u.cell hg, hbox, ints_len]
  have KH : Hid (∀ (v : Later B W) (t : Nat), Calls Try.prog 52 #[.slice a L.length cap, .int .i64 t] v.val (Ret B W (.bool (decide (t ∈ L))))) := Lib.hid (fun v t => by
    have := c_has v (ints L) (t : Int) a cap h (by rw [ints_len]; omega)
    rw [ints_len] at this
    rwa [show decide ((t : Int) ∈ ints L) = decide (t ∈ L) by simp only [mem_ints]] at this)
  have KN := Lib.hid (fun (v : Later B W) (i : Nat) (hi : i < 64) => c_in v s i (by omega) hi)
  have HX := Lib.hid (@shadB_iff m L s)
  clear h hbox hb0
  generalize shadB m L s = r at *
  go_enter Try.func199, Try.ntmps199
  go_wp2
  go_loopw [5] (fun i wr => ∃ (k : Nat) (v : Later B W), k ≤ m ∧ i = .int .i64 k ∧ wr = v.val ∧ Hid (∀ i, i < k → ¬ (s.testBit i = false ∧ s + bit i ∈ L))) (fun i _ => m - (intOf i).toNat)
  case atStart => exact ⟨0, u, by omega, rfl, rfl, Lib.hid (fun i hi => by omega)⟩
  case round =>
    clear u
    obtain ⟨k, v, hk, rfl, rfl, hf⟩ := hrel
    have q0' := q0 v
    have q1' := q1 v
    by_cases hlt : k < m
    · have hbk := bit_lt k (by omega)
      have bc := bit_cast k
      have w1 : IntKind.i64.wrap (bit k : Int) = (bit k : Int) := IntWalk.i64_in _ (by omega)
      have w2 : IntKind.i64.wrap ((s : Int) + (bit k : Int)) = ((s + bit k : Nat) : Int) := by rw [IntWalk.i64_in _ (by omega)]; omega
      have KI := Lib.hid (fun v : Later B W => KN.out v k (by omega))
      have KH1 := Lib.hid (fun v : Later B W => KH.out v (s + bit k))
      have HY : Hid (s.testBit k = false → s + bit k ∈ L → r = true) := Lib.hid (fun h1 h2 => HX.out.2 ⟨k, hlt, h1, h2⟩)
      have HZ : Hid (¬ (s.testBit k = false ∧ s + bit k ∈ L) → ∀ i, i < k + 1 → ¬ (s.testBit i = false ∧ s + bit i ∈ L)) := Lib.hid (fun h i hi => by
        by_cases e : i = k
        · subst e; exact h
        · exact hf.out i (by omega))
      clear hf
      rcases btf (s.testBit k) with g1 | g1
      · have HN := Lib.hid (HZ.out (by rw [g1]; simp))
        rw [g1] at KI
        clear HY HZ g1
        go_wp2
        refine wp_region_later v (by kernel_rfl) (by kernel_rfl) (fun _ => ?_)
        repeat (first | go_big_quiet_step (((go_at_call 128; exact KI.out _))) | (refine wpQuiet_step (fun K hK => ?_); go_simp; refine ⟨_, fun _ => rfl, ?_⟩; refine hK _ ?_; clear hK K))
        refine wpQuiet_nil ?_
        intro v
        go_wp2
        go_roundw
        case rel => exact ⟨k+1, v, by omega, by go_num, rfl, HN⟩
        case measure => simp [intOf]; omega
      · rw [g1] at KI
        by_cases hmem : s + bit k ∈ L
        · have hr := HY.out g1 hmem
          subst hr
          have KH2 := Lib.hid (fun v => dcall_t (KH1.out v) hmem)
          clear HY HZ g1 KH1
          go_wp2
          refine wp_region_later v (by kernel_rfl) (by kernel_rfl) (fun _ => ?_)
          repeat (first | go_big_quiet_step ((first | (go_at_call 128; exact KI.out _) | (go_at_call 52; exact KH2.out _))) | (refine wpQuiet_step (fun K hK => ?_); go_simp; refine ⟨_, fun _ => rfl, ?_⟩; refine hK _ ?_; clear hK K))
          refine wpQuiet_nil ?_
          intro v
          go_wp2
          go_ret
          exact Ret.mk v rfl
        · have HN := Lib.hid (HZ.out (fun h => hmem h.2))
          have KH2 := Lib.hid (fun v => dcall_f (KH1.out v) hmem)
          clear HY HZ g1 KH1
          go_wp2
          refine wp_region_later v (by kernel_rfl) (by kernel_rfl) (fun _ => ?_)
          repeat (first | go_big_quiet_step ((first | (go_at_call 128; exact KI.out _) | (go_at_call 52; exact KH2.out _))) | (refine wpQuiet_step (fun K hK => ?_); go_simp; refine ⟨_, fun _ => rfl, ?_⟩; refine hK _ ?_; clear hK K))
          refine wpQuiet_nil ?_
          intro v
          go_wp2
          go_roundw
          case rel => exact ⟨k+1, v, by omega, by go_num, rfl, HN⟩
          case measure => simp [intOf]; omega
    · have hr : r = false := by
        cases c : r
        · rfl
        · obtain ⟨i, h1, h2⟩ := HX.out.1 c
          exact absurd h2 (hf.out i (by omega))
      subst hr
      go_wp2
      go_ret
      exact Ret.mk v rfl

set_option maxRecDepth 100000 in
set_option maxHeartbeats 4000000 in
theorem c_meetTell {B : Nat} {W : World} (u : Later B W) (L : List Nat) (h256 : ∀ b, b ∈ L → b < 256) (hlen : L.length ≤ 1048576) (cap g : Nat) (a : Option Addr) (s : Nat) (hs : s < 256) (h : IntsAt B W a (ints L)) (hg : g < B) (hbox : W.cell? ⟨g, 0, none⟩ = some (.slice a (ints L).length cap)) :
    Calls Try.prog 200 #[.int .i64 s, .pointer (some ⟨g, 0, none⟩)] u.val (Ret B W (.bool (meetsB L s))) := by
  have q1 : ∀ u : Later B W, u.val.cell? ⟨g, 0, none⟩ = some (.slice a L.length cap) := fun u => by rw [u.cell hg, hbox, ints_len]
  have HI := Lib.hid h
  have H8 : Hid (∀ i, i < L.length → L.getD i 0 < 256) := Lib.hid (fun i hi => h256 _ (by simp [hi]))
  have HF : Hid (meetsB L s = true ↔ ∀ i, i < L.length → s &&& L.getD i 0 ≠ 0) := Lib.hid (by
    rw [meetsB_iff]
    constructor
    · intro h i hi; exact h _ (by simp [hi])
    · intro h x hx
      obtain ⟨i, hi, e⟩ := List.getElem_of_mem hx
      have := h i hi
      rwa [show L.getD i 0 = x by simp [hi, e]] at this)
  clear h hbox h256
  generalize meetsB L s = r at *
  go_enter Try.func200, Try.ntmps200
  go_wp2
  go_loopw [4] (fun i wr => ∃ (k : Nat) (v : Later B W), k ≤ L.length ∧ i = .int .i64 k ∧ wr = v.val ∧ Hid (∀ i, i < k → s &&& L.getD i 0 ≠ 0)) (fun i _ => L.length - (intOf i).toNat)
  case atStart => exact ⟨0, u, by omega, rfl, rfl, Lib.hid (fun i hi => by omega)⟩
  case round =>
    clear u
    obtain ⟨k, v, hk, rfl, rfl, hf⟩ := hrel
    have q1' := q1 v
    by_cases hlt : k < L.length
    · obtain ⟨b, off, rfl, hbB, hcell⟩ := HI.out.at (k := k) (by rw [ints_len]; exact hlt)
      have c0 : v.val.cell? ⟨b, off + k, none⟩ = some (.int .i64 ((L.getD k 0 : Nat) : Int)) := by rw [← ints_getD]; exact hcell v k (by rw [ints_len]; exact hlt)
      have h8 := H8.out k hlt
      have o1 := i64_and s (L.getD k 0) (by omega) (by omega)
      have HX : Hid (s &&& L.getD k 0 = 0 → r = false) := Lib.hid (fun h1 => by
        cases h : r with
        | false => rfl
        | true => exact absurd h1 (HF.out.1 h k hlt))
      have HY : Hid (s &&& L.getD k 0 ≠ 0 → ∀ i, i < k + 1 → s &&& L.getD i 0 ≠ 0) := Lib.hid (fun h i hi => by
        by_cases c : i = k
        · subst c; exact h
        · exact hf.out i (by omega))
      clear hcell hf
      generalize L.getD k 0 = x at *
      generalize s &&& x = z at *
      by_cases hz : z = 0
      · have hr := HX.out hz
        subst hr
        subst hz
        clear HX HY
        go_wp2
        go_ret
        exact Ret.mk v rfl
      · have HN := Lib.hid (HY.out hz)
        have d1 : ((z : Int) == 0) = false := by rw [beq_eq_false_iff_ne]; omega
        clear HX HY hz
        go_wp2
        go_roundw
        case rel => exact ⟨k+1, v, by omega, by go_num, rfl, HN⟩
        case measure => simp [intOf]; omega
    · have hr : r = true := HF.out.2 (fun i hi => hf.out i (by omega))
      subst hr
      go_wp2
      go_ret
      exact Ret.mk v rfl


set_option maxRecDepth 100000 in
set_option maxHeartbeats 4000000 in
theorem c_shadowR {B : Nat} {W : World} (u : Later B W) (m : Nat) (hm : m ≤ 8) (L : List Nat) (hlen : L.length ≤ 1048576) (a : Option Addr) (cap : Nat) (h : IntsAt B W a (ints L)) :
    Calls Try.prog 97 #[.int .i64 m, .slice a (ints L).length cap] u.val (RetInts B W (ints (those m (shadB m L)))) := by
  have hb := bit_le m hm
  have T0 : RowL (u.val.alloc (.cells #[.int .i64 m] 3)) u.val.heap.size 3 [.int .i64 m] := RowL.new _ _ _
  have T1 : RowL ((u.val.alloc (.cells #[.int .i64 m] 3)).alloc (.cells #[.slice a (ints L).length cap] 22)) (u.val.alloc (.cells #[.int .i64 m] 3)).heap.size 22 [.slice a (ints L).length cap] := RowL.new _ _ _
  have T0' : RowL ((u.val.alloc (.cells #[.int .i64 m] 3)).alloc (.cells #[.slice a (ints L).length cap] 22)) u.val.heap.size 3 [.int .i64 m] := T0.keep ((Later.self (u.val.alloc (.cells #[.int .i64 m] 3))).alloc _).below
  have e1 : (u.val.alloc (.cells #[.int .i64 m] 3)).heap.size = u.val.heap.size + 1 := by simp
  have hr0 : u.val.heap.size < ((u.val.alloc (.cells #[.int .i64 m] 3)).alloc (.cells #[.slice a (ints L).length cap] 22)).heap.size := by simp; omega
  have hr1 : (u.val.alloc (.cells #[.int .i64 m] 3)).heap.size < ((u.val.alloc (.cells #[.int .i64 m] 3)).alloc (.cells #[.slice a (ints L).length cap] 22)).heap.size := by simp
  have hI : IntsAt ((u.val.alloc (.cells #[.int .i64 m] 3)).alloc (.cells #[.slice a (ints L).length cap] 22)).heap.size ((u.val.alloc (.cells #[.int .i64 m] 3)).alloc (.cells #[.slice a (ints L).length cap] 22)) a (ints L) := h.to ((u.alloc _).alloc _)
  have p0 : ((u.val.alloc (.cells #[.int .i64 m] 3)).alloc (.cells #[.slice a (ints L).length cap] 22)).cell? ⟨u.val.heap.size, 0, none⟩ = some (.int .i64 m) := T0'.cell rfl
  have K : Hid (Calls Try.prog 58 #[.int .i64 m, .func (.func 199) #[] #[.pointer (some ⟨u.val.heap.size, 0, none⟩), .pointer (some ⟨(u.val.alloc (.cells #[.int .i64 m] 3)).heap.size, 0, none⟩)]] ((u.val.alloc (.cells #[.int .i64 m] 3)).alloc (.cells #[.slice a (ints L).length cap] 22)) (RetInts ((u.val.alloc (.cells #[.int .i64 m] 3)).alloc (.cells #[.slice a (ints L).length cap] 22)).heap.size ((u.val.alloc (.cells #[.int .i64 m] 3)).alloc (.cells #[.slice a (ints L).length cap] 22)) (ints (those m (shadB m L))))) := Lib.hid (by
    refine c_those (Later.self _) m hm 199 _ (shadB m L) (fun args w => by kernel_rfl) (fun x v s hs => ?_)
    exact c_shadTell v m hm L hlen cap u.val.heap.size (u.val.alloc (.cells #[.int .i64 m] 3)).heap.size a s (by omega) (hI.to x) (Nat.lt_of_lt_of_le hr0 x.size) (Nat.lt_of_lt_of_le hr1 x.size) ((T0'.keep x.below).cell rfl) ((T1.keep x.below).cell rfl))
  rw [e1] at K
  clear h hI T0 T1 T0' hr0 hr1 e1
  go_enter Try.func97, Try.ntmps97
  go_wp2_with (first | (go_at_call 58; refine (K.out).mono ?_; rintro e _ ⟨_, rfl, ⟨ad1, cp1, rfl, hI1, hcp1⟩, v1, rfl⟩))
  go_ret
  exact RetP.mk (((u.alloc _).alloc _).up v1) ⟨_, _, rfl, hI1, hcp1⟩

set_option maxRecDepth 100000 in
set_option maxHeartbeats 4000000 in
theorem c_blockerR {B : Nat} {W : World} (u : Later B W) (m : Nat) (hm : m ≤ 8) (L : List Nat) (h256 : ∀ b, b ∈ L → b < 256) (hlen : L.length ≤ 1048576) (a : Option Addr) (cap : Nat) (h : IntsAt B W a (ints L)) :
    Calls Try.prog 98 #[.int .i64 m, .slice a (ints L).length cap] u.val (RetInts B W (ints (those m (leastB (those m (meetsB L)))))) := by
  have hb := bit_le m hm
  have T1 : RowL (u.val.alloc (.cells #[.slice a (ints L).length cap] 22)) u.val.heap.size 22 [.slice a (ints L).length cap] := RowL.new _ _ _
  have hr1 : u.val.heap.size < (u.val.alloc (.cells #[.slice a (ints L).length cap] 22)).heap.size := by simp
  have hI : IntsAt (u.val.alloc (.cells #[.slice a (ints L).length cap] 22)).heap.size (u.val.alloc (.cells #[.slice a (ints L).length cap] 22)) a (ints L) := h.to (u.alloc _)
  have K : Hid (Calls Try.prog 58 #[.int .i64 m, .func (.func 200) #[] #[.pointer (some ⟨u.val.heap.size, 0, none⟩)]] (u.val.alloc (.cells #[.slice a (ints L).length cap] 22)) (RetInts (u.val.alloc (.cells #[.slice a (ints L).length cap] 22)).heap.size (u.val.alloc (.cells #[.slice a (ints L).length cap] 22)) (ints (those m (meetsB L))))) := Lib.hid (by
    refine c_those (Later.self _) m hm 200 _ (meetsB L) (fun args w => by kernel_rfl) (fun x v s hs => ?_)
    exact c_meetTell v L h256 hlen cap u.val.heap.size a s (by omega) (hI.to x) (Nat.lt_of_lt_of_le hr1 x.size) ((T1.keep x.below).cell rfl))
  have HM8 : Hid (∀ b, b ∈ those m (meetsB L) → b < 256) := Lib.hid (fun b hb => by have := (mem_those.1 hb).1; omega)
  have HMl : Hid ((those m (meetsB L)).length ≤ 256) := Lib.hid (by have := thoseTo_len (meetsB L) (bit m); have e : those m (meetsB L) = thoseTo (meetsB L) (bit m) := rfl; rw [e]; omega)
  clear h hI T1 hr1 h256
  generalize those m (meetsB L) = M at *
  go_enter Try.func98, Try.ntmps98
  go_wp2_with (first | (go_at_call 58; refine (K.out).mono ?_; rintro e _ ⟨_, rfl, ⟨ad1, cp1, rfl, hI1, hcp1⟩, v1, rfl⟩) | (go_at_call 95; refine (c_leastR (Later.self v1.val) m hm M HM8.out (by have := HMl.out; omega) ad1 cp1 hI1).mono ?_; rintro e _ ⟨_, rfl, ⟨ad2, cp2, rfl, hI2, hcp2⟩, v2, rfl⟩))
  go_ret
  exact RetP.mk (((u.alloc _).up v1).up v2) ⟨_, _, rfl, hI2, hcp2⟩

end Go.Proofs.Ytjpcelldbhdneaa
