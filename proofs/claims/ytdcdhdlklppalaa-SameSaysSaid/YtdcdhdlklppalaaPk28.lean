
/-
  same.Group, same.Orbits.
  same.Isomorphic's function value, told the first order.
  rotaref.Isomorphic.
-/
import Derived.Test.YtdcdhdlklppalaaPk26
import Derived.Test.YtdcdhdlklppalaaPk27
import Derived.Test.YtdcdhdlklppalaaPk41
import Derived.Test.YtdcdhdlklppalaaPk43
namespace Go.Proofs.Ytdcdhdlklppalaa
open Go.RowKit
set_option linter.unusedVariables false

/-- where elements go, as a list -/
def orbL (n : Nat) (F : List (List Nat)) : List Nat := (List.range n).map (orT F)
theorem orbL_tab (n : Nat) (F : List (List Nat)) : tabL n (fun i => (orT F i : Int)) = ints (orbL n F) := by
  unfold tabL orbL ints
  rw [List.map_map]
  rfl
theorem orbL_len (n : Nat) (F : List (List Nat)) : (orbL n F).length = n := by simp [orbL]
theorem orT_lt {n : Nat} {F : List (List Nat)} (h : ∀ q, q ∈ F → Pm n q) : ∀ {i}, i < n → orT F i < bit n := by
  intro i hi
  unfold orT
  have : ∀ (l : List (List Nat)) (t : Nat), (∀ q, q ∈ l → Pm n q) → t < bit n → l.foldl (fun t q => t ||| bit (q.getD i 0)) t < bit n := by
    intro l
    induction l with
    | nil => intro t _ ht; exact ht
    | cons q l ih => intro t hq ht; exact ih _ (fun x hx => hq x (List.mem_cons_of_mem _ hx)) (or_lt_bit ht (bit_lt_bit ((hq q List.mem_cons_self).lt i hi)))
  exact this F 0 h (Nat.two_pow_pos n)

set_option maxRecDepth 100000 in
set_option maxHeartbeats 4000000 in
theorem c_sameGroup_no {B : Nat} {W : World} (u : Later B W) (n : Int) (l : List Int) (a : Option Addr) (cap : Nat) (e : Int) (h : IntsAt B W a l) (hlen : l.length ≤ 4611686018427387904) (he : MatIs n l e) (h0 : e ≠ 0) :
    Calls Try.prog 13 #[.agg #[.int .i64 n, .slice a l.length cap]] u.val (Ret B W (.tuple #[.int .i64 0, .int .i64 e])) := by
  have T0 : Hid (Two (u.val.alloc (.cells #[.int .i64 n, .slice a l.length cap] 24)) u.val.heap.size 24 (.int .i64 n) (.slice a l.length cap)) := Lib.hid (Two.new _ _ _ _)
  have hrr : u.val.heap.size < (u.val.alloc (.cells #[.int .i64 n, .slice a l.length cap] 24)).heap.size := by simp
  have hI : IntsAt (u.val.alloc (.cells #[.int .i64 n, .slice a l.length cap] 24)).heap.size (u.val.alloc (.cells #[.int .i64 n, .slice a l.length cap] 24)) a l := h.to (u.alloc _)
  have HV : Hid (∀ v : Later (u.val.alloc (.cells #[.int .i64 n, .slice a l.length cap] 24)).heap.size (u.val.alloc (.cells #[.int .i64 n, .slice a l.length cap] 24)), ∃ w : Later B W, w.val = v.val) := Lib.hid (fun v => ⟨(u.alloc _).up v, rfl⟩)
  have q0 : ∀ w : Later (u.val.alloc (.cells #[.int .i64 n, .slice a l.length cap] 24)).heap.size (u.val.alloc (.cells #[.int .i64 n, .slice a l.length cap] 24)), w.val.cell? ⟨u.val.heap.size, 0, none⟩ = some (.int .i64 n) := fun w => (T0.out.keep w.below).c0
  have q1 : ∀ w : Later (u.val.alloc (.cells #[.int .i64 n, .slice a l.length cap] 24)).heap.size (u.val.alloc (.cells #[.int .i64 n, .slice a l.length cap] 24)), w.val.cell? ⟨u.val.heap.size, 1, none⟩ = some (.slice a l.length cap) := fun w => (T0.out.keep w.below).c1
  have p0 : (u.val.alloc (.cells #[.int .i64 n, .slice a l.length cap] 24)).cell? ⟨u.val.heap.size, 0, none⟩ = some (.int .i64 n) := T0.out.c0
  have p1 : (u.val.alloc (.cells #[.int .i64 n, .slice a l.length cap] 24)).cell? ⟨u.val.heap.size, 1, none⟩ = some (.slice a l.length cap) := T0.out.c1
  have KC : Hid (Calls Try.prog 33 #[.agg #[.int .i64 n, .slice a l.length cap]] (u.val.alloc (.cells #[.int .i64 n, .slice a l.length cap] 24)) (Ret (u.val.alloc (.cells #[.int .i64 n, .slice a l.length cap] 24)).heap.size (u.val.alloc (.cells #[.int .i64 n, .slice a l.length cap] 24)) (.int .i64 e))) := Lib.hid (c_axCheck (Later.self (u.val.alloc (.cells #[.int .i64 n, .slice a l.length cap] 24))) n l a cap e hI hlen he)
  have d0 : (e != 0) = true := by rw [bne_iff_ne]; exact h0
  clear h hI he h0 T0 q0 q1
  go_enter Try.func13, Try.ntmps13
  go_wp2_with (first | (go_at_call 33; (with_reducible refine (KC.out).mono ?_); rintro e _ ⟨rfl, v1, rfl⟩))
  go_ret2
  exact Ret.of (HV.out v1) rfl

set_option maxRecDepth 100000 in
set_option maxHeartbeats 4000000 in
theorem c_sameOrbits_no {B : Nat} {W : World} (u : Later B W) (n : Int) (l : List Int) (a : Option Addr) (cap : Nat) (e : Int) (h : IntsAt B W a l) (hlen : l.length ≤ 4611686018427387904) (he : MatIs n l e) (h0 : e ≠ 0) :
    Calls Try.prog 14 #[.agg #[.int .i64 n, .slice a l.length cap]] u.val (Ret B W (.tuple #[.slice none 0 0, .int .i64 e])) := by
  have T0 : Hid (Two (u.val.alloc (.cells #[.int .i64 n, .slice a l.length cap] 24)) u.val.heap.size 24 (.int .i64 n) (.slice a l.length cap)) := Lib.hid (Two.new _ _ _ _)
  have hrr : u.val.heap.size < (u.val.alloc (.cells #[.int .i64 n, .slice a l.length cap] 24)).heap.size := by simp
  have hI : IntsAt (u.val.alloc (.cells #[.int .i64 n, .slice a l.length cap] 24)).heap.size (u.val.alloc (.cells #[.int .i64 n, .slice a l.length cap] 24)) a l := h.to (u.alloc _)
  have HV : Hid (∀ v : Later (u.val.alloc (.cells #[.int .i64 n, .slice a l.length cap] 24)).heap.size (u.val.alloc (.cells #[.int .i64 n, .slice a l.length cap] 24)), ∃ w : Later B W, w.val = v.val) := Lib.hid (fun v => ⟨(u.alloc _).up v, rfl⟩)
  have q0 : ∀ w : Later (u.val.alloc (.cells #[.int .i64 n, .slice a l.length cap] 24)).heap.size (u.val.alloc (.cells #[.int .i64 n, .slice a l.length cap] 24)), w.val.cell? ⟨u.val.heap.size, 0, none⟩ = some (.int .i64 n) := fun w => (T0.out.keep w.below).c0
  have q1 : ∀ w : Later (u.val.alloc (.cells #[.int .i64 n, .slice a l.length cap] 24)).heap.size (u.val.alloc (.cells #[.int .i64 n, .slice a l.length cap] 24)), w.val.cell? ⟨u.val.heap.size, 1, none⟩ = some (.slice a l.length cap) := fun w => (T0.out.keep w.below).c1
  have p0 : (u.val.alloc (.cells #[.int .i64 n, .slice a l.length cap] 24)).cell? ⟨u.val.heap.size, 0, none⟩ = some (.int .i64 n) := T0.out.c0
  have p1 : (u.val.alloc (.cells #[.int .i64 n, .slice a l.length cap] 24)).cell? ⟨u.val.heap.size, 1, none⟩ = some (.slice a l.length cap) := T0.out.c1
  have KC : Hid (Calls Try.prog 33 #[.agg #[.int .i64 n, .slice a l.length cap]] (u.val.alloc (.cells #[.int .i64 n, .slice a l.length cap] 24)) (Ret (u.val.alloc (.cells #[.int .i64 n, .slice a l.length cap] 24)).heap.size (u.val.alloc (.cells #[.int .i64 n, .slice a l.length cap] 24)) (.int .i64 e))) := Lib.hid (c_axCheck (Later.self (u.val.alloc (.cells #[.int .i64 n, .slice a l.length cap] 24))) n l a cap e hI hlen he)
  have d0 : (e != 0) = true := by rw [bne_iff_ne]; exact h0
  clear h hI he h0 T0 q0 q1
  go_enter Try.func14, Try.ntmps14
  go_wp2_with (first | (go_at_call 33; (with_reducible refine (KC.out).mono ?_); rintro e _ ⟨rfl, v1, rfl⟩))
  go_ret2
  exact Ret.of (HV.out v1) rfl

set_option maxRecDepth 100000 in
set_option maxHeartbeats 8000000 in
theorem c_sameGroup {B : Nat} {W : World} (u : Later B W) (n : Nat) (hn : n ≤ 8) (l : List Int) (a : Option Addr) (cap : Nat) (h : IntsAt B W a l) (hlen : l.length ≤ 4611686018427387904) (he : MatIs (n : Int) l 0) :
    Calls Try.prog 13 #[.agg #[.int .i64 n, .slice a l.length cap]] u.val (Ret B W (.tuple #[.int .i64 (cntN (ords n (toN l) (toN l)).length), .int .i64 0])) := by
  have T0 : Hid (Two (u.val.alloc (.cells #[.int .i64 n, .slice a l.length cap] 24)) u.val.heap.size 24 (.int .i64 n) (.slice a l.length cap)) := Lib.hid (Two.new _ _ _ _)
  have hrr : u.val.heap.size < (u.val.alloc (.cells #[.int .i64 n, .slice a l.length cap] 24)).heap.size := by simp
  have hI : IntsAt (u.val.alloc (.cells #[.int .i64 n, .slice a l.length cap] 24)).heap.size (u.val.alloc (.cells #[.int .i64 n, .slice a l.length cap] 24)) a l := h.to (u.alloc _)
  have HV : Hid (∀ v : Later (u.val.alloc (.cells #[.int .i64 n, .slice a l.length cap] 24)).heap.size (u.val.alloc (.cells #[.int .i64 n, .slice a l.length cap] 24)), ∃ w : Later B W, w.val = v.val) := Lib.hid (fun v => ⟨(u.alloc _).up v, rfl⟩)
  have q0 : ∀ w : Later (u.val.alloc (.cells #[.int .i64 n, .slice a l.length cap] 24)).heap.size (u.val.alloc (.cells #[.int .i64 n, .slice a l.length cap] 24)), w.val.cell? ⟨u.val.heap.size, 0, none⟩ = some (.int .i64 n) := fun w => (T0.out.keep w.below).c0
  have q1 : ∀ w : Later (u.val.alloc (.cells #[.int .i64 n, .slice a l.length cap] 24)).heap.size (u.val.alloc (.cells #[.int .i64 n, .slice a l.length cap] 24)), w.val.cell? ⟨u.val.heap.size, 1, none⟩ = some (.slice a l.length cap) := fun w => (T0.out.keep w.below).c1
  have p0 : (u.val.alloc (.cells #[.int .i64 n, .slice a l.length cap] 24)).cell? ⟨u.val.heap.size, 0, none⟩ = some (.int .i64 n) := T0.out.c0
  have p1 : (u.val.alloc (.cells #[.int .i64 n, .slice a l.length cap] 24)).cell? ⟨u.val.heap.size, 1, none⟩ = some (.slice a l.length cap) := T0.out.c1
  have KC : Hid (Calls Try.prog 33 #[.agg #[.int .i64 n, .slice a l.length cap]] (u.val.alloc (.cells #[.int .i64 n, .slice a l.length cap] 24)) (Ret (u.val.alloc (.cells #[.int .i64 n, .slice a l.length cap] 24)).heap.size (u.val.alloc (.cells #[.int .i64 n, .slice a l.length cap] 24)) (.int .i64 0))) := Lib.hid (c_axCheck (Later.self (u.val.alloc (.cells #[.int .i64 n, .slice a l.length cap] 24))) n l a cap 0 hI hlen he)
  have HI := Lib.hid hI
  have HM := Lib.hid he
  clear h hI he T0
  go_enter Try.func13, Try.ntmps13
  go_upto_region 4 with (first | (go_at_call 33; ((with_reducible refine (KC.out).mono ?_); rintro e _ ⟨rfl, y, rfl⟩)) | fail)
  go_upto_region 5 with fail
  generalize (u.val.alloc (.cells #[.int .i64 n, .slice a l.length cap] 24)) = M at *
  have hZs : (y.val.alloc (.cells #[.int .i64 0] 3)).heap.size = y.val.heap.size + 1 := by simp
  have R1 : Hid (RowAt1 (y.val.alloc (.cells #[.int .i64 0] 3)) y.val.heap.size 3 (.int .i64 0)) := Lib.hid (heap_alloc_new _ _)
  obtain ⟨x, hx⟩ : ∃ x : Later M.heap.size M, x.val = (y.val.alloc (.cells #[.int .i64 0] 3)) := ⟨y.alloc _, rfl⟩
  have hys := y.size
  rw [← hx] at R1 hZs ⊢
  clear hx
  generalize hbo : y.val.heap.size = bn at *
  clear hbo y KC
  have K := Lib.hid (c_each (Later.self x.val) n hn l l a a cap cap (HI.out.to x) (HI.out.to x) hlen hlen HM.out HM.out (fun k => k = bn) (fun k hk => by show k < x.val.heap.size; omega) true 39 #[.pointer (some ⟨bn, 0, none⟩)] (fun bp => GpI bn bp)
    (fun bp W' h1 h2 h3 => grp_do W'.heap.size bp W' n bn h2 (by have : x.val.heap.size ≤ bp := h1; omega))
    (fun bp w h1 h2 => ⟨(fun g hg => by cases hg), R1.out.keep h2⟩))
  have hp1 : ∀ (args : Array Value) (w : World), (callFunc 39 args).run Try.prog w = .ok (.enter 39 args) w := fun _ _ => by kernel_rfl
  have HVX : Hid (∀ v : Off x.val.heap.size (fun k => k = bn) x.val, ∃ w : Later B W, w.val = v.val) := Lib.hid (fun v => by
    have hb := v.below (B0 := M.heap.size) x.size (fun k hk => by omega)
    obtain ⟨w, hw⟩ := HV.out (x.to v.val hb)
    exact ⟨w, hw⟩)
  have r0 := q0 x
  have r1 := q1 x
  clear HI HM R1 HV q0 q1 p0 p1
  generalize ords n (toN l) (toN l) = F at *
  have K2 : Hid (Calls Try.prog 36 #[.agg #[.int .i64 n, .slice a l.length cap], .agg #[.int .i64 n, .slice a l.length cap], .func (.func 39) #[] #[.pointer (some ⟨bn, 0, none⟩)]] x.val (fun e w' => e = .returned (.tuple #[]) ∧ ∃ v' : Off x.val.heap.size (fun k => k = bn) x.val, w' = v'.val ∧ v'.val.cell? ⟨bn, 0, none⟩ = some (.int .i64 (cntN F.length)))) := Lib.hid (K.out.mono (by
    rintro e _ ⟨rfl, v', rfl, bp, o, hbp, hI⟩
    exact ⟨rfl, v', rfl, hI.row.c0⟩))
  clear K
  generalize cntN F.length = N at *
  go_wp2_with (first | (go_at_call 36; (with_reducible refine (K2.out).mono ?_); rintro e _ ⟨rfl, v', rfl, c0⟩) | fail)
  go_ret2
  exact Ret.of (HVX.out v') rfl

set_option maxRecDepth 100000 in
set_option maxHeartbeats 8000000 in
theorem c_sameOrbits {B : Nat} {W : World} (u : Later B W) (n : Nat) (hn : n ≤ 8) (l : List Int) (a : Option Addr) (cap : Nat) (h : IntsAt B W a l) (hlen : l.length ≤ 4611686018427387904) (he : MatIs (n : Int) l 0) :
    Calls Try.prog 14 #[.agg #[.int .i64 n, .slice a l.length cap]] u.val (RetP B W (ListE (ints (those n (fun s => decide (s ∈ orbL n (ords n (toN l) (toN l)))))) 0)) := by
  have T0 : Hid (Two (u.val.alloc (.cells #[.int .i64 n, .slice a l.length cap] 24)) u.val.heap.size 24 (.int .i64 n) (.slice a l.length cap)) := Lib.hid (Two.new _ _ _ _)
  have hrr : u.val.heap.size < (u.val.alloc (.cells #[.int .i64 n, .slice a l.length cap] 24)).heap.size := by simp
  have hI : IntsAt (u.val.alloc (.cells #[.int .i64 n, .slice a l.length cap] 24)).heap.size (u.val.alloc (.cells #[.int .i64 n, .slice a l.length cap] 24)) a l := h.to (u.alloc _)
  have HV : Hid (∀ v : Later (u.val.alloc (.cells #[.int .i64 n, .slice a l.length cap] 24)).heap.size (u.val.alloc (.cells #[.int .i64 n, .slice a l.length cap] 24)), ∃ w : Later B W, w.val = v.val) := Lib.hid (fun v => ⟨(u.alloc _).up v, rfl⟩)
  have q0 : ∀ w : Later (u.val.alloc (.cells #[.int .i64 n, .slice a l.length cap] 24)).heap.size (u.val.alloc (.cells #[.int .i64 n, .slice a l.length cap] 24)), w.val.cell? ⟨u.val.heap.size, 0, none⟩ = some (.int .i64 n) := fun w => (T0.out.keep w.below).c0
  have q1 : ∀ w : Later (u.val.alloc (.cells #[.int .i64 n, .slice a l.length cap] 24)).heap.size (u.val.alloc (.cells #[.int .i64 n, .slice a l.length cap] 24)), w.val.cell? ⟨u.val.heap.size, 1, none⟩ = some (.slice a l.length cap) := fun w => (T0.out.keep w.below).c1
  have p0 : (u.val.alloc (.cells #[.int .i64 n, .slice a l.length cap] 24)).cell? ⟨u.val.heap.size, 0, none⟩ = some (.int .i64 n) := T0.out.c0
  have p1 : (u.val.alloc (.cells #[.int .i64 n, .slice a l.length cap] 24)).cell? ⟨u.val.heap.size, 1, none⟩ = some (.slice a l.length cap) := T0.out.c1
  have KC : Hid (Calls Try.prog 33 #[.agg #[.int .i64 n, .slice a l.length cap]] (u.val.alloc (.cells #[.int .i64 n, .slice a l.length cap] 24)) (Ret (u.val.alloc (.cells #[.int .i64 n, .slice a l.length cap] 24)).heap.size (u.val.alloc (.cells #[.int .i64 n, .slice a l.length cap] 24)) (.int .i64 0))) := Lib.hid (c_axCheck (Later.self (u.val.alloc (.cells #[.int .i64 n, .slice a l.length cap] 24))) n l a cap 0 hI hlen he)
  have HI := Lib.hid hI
  have HM := Lib.hid he
  have hmk := mk_tab n (by omega)
  clear h hI he T0
  go_enter Try.func14, Try.ntmps14
  go_upto_region 4 with (first | (go_at_call 33; ((with_reducible refine (KC.out).mono ?_); rintro e _ ⟨rfl, y, rfl⟩)) | fail)
  generalize (u.val.alloc (.cells #[.int .i64 n, .slice a l.length cap] 24)) = M at *
  have y0 := q0 y
  go_upto_region 5 with fail
  have hZ1 : (y.val.alloc (.cells (madeCells #[.int .i64 0] n) 3)).heap.size = y.val.heap.size + 1 := by simp
  have hZs : ((y.val.alloc (.cells (madeCells #[.int .i64 0] n) 3)).alloc (.cells #[.slice (some ⟨y.val.heap.size, 0, none⟩) n n] 22)).heap.size = y.val.heap.size + 2 := by simp
  have R1 : Hid (RowAt1 ((y.val.alloc (.cells (madeCells #[.int .i64 0] n) 3)).alloc (.cells #[.slice (some ⟨y.val.heap.size, 0, none⟩) n n] 22)) (y.val.heap.size + 1) 22 (.slice (some ⟨y.val.heap.size, 0, none⟩) n n)) := Lib.hid (by
    have h := heap_alloc_new (y.val.alloc (.cells (madeCells #[.int .i64 0] n) 3)) (.cells #[.slice (some ⟨y.val.heap.size, 0, none⟩) n n] 22)
    rwa [hZ1] at h)
  have R0 : Hid (ITab ((y.val.alloc (.cells (madeCells #[.int .i64 0] n) 3)).alloc (.cells #[.slice (some ⟨y.val.heap.size, 0, none⟩) n n] 22)) y.val.heap.size n (fun _ => 0)) := Lib.hid ((ITab.made y.val n).keep ((Below.refl _ _).alloc (Nat.le_refl _) _))
  obtain ⟨x, hx⟩ : ∃ x : Later M.heap.size M, x.val = ((y.val.alloc (.cells (madeCells #[.int .i64 0] n) 3)).alloc (.cells #[.slice (some ⟨y.val.heap.size, 0, none⟩) n n] 22)) := ⟨(y.alloc _).alloc _, rfl⟩
  have hys := y.size
  rw [← hx] at R1 R0 hZs ⊢
  clear hx hZ1
  generalize hbo : y.val.heap.size = bt at *
  clear hbo y KC y0
  generalize hbo : bt + 1 = bo at *
  have K := Lib.hid (c_each (Later.self x.val) n hn l l a a cap cap (HI.out.to x) (HI.out.to x) hlen hlen HM.out HM.out (fun k => k = bo ∨ k = bt) (fun k hk => by show k < x.val.heap.size; omega) true 40 #[.pointer (some ⟨bo, 0, none⟩)] (fun bp o l w => OrI n bo bt n bp o (orT l) w)
    (fun bp W' h1 h2 h3 => orb_do W'.heap.size bp W' n bo bt n hn h2 (by have : x.val.heap.size ≤ bp := h1; omega) (by have : x.val.heap.size ≤ bp := h1; omega) (by omega))
    (fun bp w h1 h2 => ⟨(fun g hg => by cases hg), R1.out.keep h2, (R0.out.keep h2).congr (fun j _ => rfl), fun i _ => by have := (bit_le n hn).1; show 0 < bit n; omega⟩))
  have hp1 : ∀ (args : Array Value) (w : World), (callFunc 40 args).run Try.prog w = .ok (.enter 40 args) w := fun _ _ => by kernel_rfl
  have HVX : Hid (∀ v : Off x.val.heap.size (fun k => k = bo ∨ k = bt) x.val, ∃ w : Later M.heap.size M, w.val = v.val) := Lib.hid (fun v => by
    have hb := v.below (B0 := M.heap.size) x.size (fun k hk => by omega)
    exact ⟨x.to v.val hb, rfl⟩)
  have HFl : Hid (cpt (srt (ints (orbL n (ords n (toN l) (toN l))))) = ints (those n (fun s => decide (s ∈ orbL n (ords n (toN l) (toN l)))))) := Lib.hid (cpt_srt (fun s hs => by
    obtain ⟨i, hi, rfl⟩ := List.mem_map.1 hs
    exact orT_lt (fun q hq => (mem_ords.1 hq).1) (List.mem_range.1 hi)))
  have HLl : Hid ((ints (orbL n (ords n (toN l) (toN l)))).length = n) := Lib.hid (by rw [ints_len, orbL_len])
  have r0 := q0 x
  have r1 := q1 x
  have HBM : Hid (B ≤ M.heap.size) := Lib.hid (by have := u.size; omega)
  clear HI HM R1 R0 q0 q1 p0 p1 hmk
  generalize hA : ints (those n (fun s => decide (s ∈ orbL n (ords n (toN l) (toN l))))) = A at *
  have HAe := Lib.hid hA
  clear hA
  have K2 : Hid (Calls Try.prog 36 #[.agg #[.int .i64 n, .slice a l.length cap], .agg #[.int .i64 n, .slice a l.length cap], .func (.func 40) #[] #[.pointer (some ⟨bo, 0, none⟩)]] x.val (fun e w' => e = .returned (.tuple #[]) ∧ ∃ v' : Later M.heap.size M, w' = v'.val ∧ RowAt1 v'.val bo 22 (.slice (some ⟨bt, 0, none⟩) n n) ∧ Own M.heap.size v'.val (some ⟨bt, 0, none⟩) n (ints (orbL n (ords n (toN l) (toN l)))))) := Lib.hid (K.out.mono (by
    rintro e _ ⟨rfl, v', rfl, bp, o, hbp, hI⟩
    obtain ⟨w, hw⟩ := HVX.out v'
    refine ⟨rfl, w, hw.symm, ?_, ?_⟩
    · rw [hw]; exact hI.row
    · rw [hw, ← orbL_tab]; exact own_of_tabS hI.tab hys (by omega)))
  clear K HVX
  have hl1 := HLl.out
  have hgm : M.heap.size ≤ bt := hys
  generalize ints (orbL n (ords n (toN l) (toN l))) = T at *
  go_wp2_with (first | (go_at_call 36; (with_reducible refine (K2.out).mono ?_); rintro e _ ⟨rfl, v', rfl, c0, ho⟩; have C0 := Lib.hid c0; have HO := Lib.hid ho; have c1 := C0.out.c0; clear c0 ho) | fail)
  clear K2
  have KS := Lib.hid (c_sort v' T (some ⟨bt, 0, none⟩) n HO.out (by omega))
  rw [hl1] at KS
  refine KS.out.mono ?_
  rintro e _ ⟨rfl, v2, rfl, ho2, hf2⟩
  have C2 : Hid (RowAt1 v2.val bo 22 (.slice (some ⟨bt, 0, none⟩) n n)) := Lib.hid (by
    show v2.val.heap[bo]? = _
    rw [hf2 bo C0.out.lt (fun off e => by cases e; omega)]; exact C0.out)
  have c2 := C2.out.c0
  have KP := Lib.hid (c_compact v2 (srt T) (some ⟨bt, 0, none⟩) n ho2)
  rw [srt_len, HFl.out, hl1] at KP
  clear ho2 hf2 KS HO C0 c1
  have hAl : A.length ≤ 8 := by
    have := cpt_len (srt T)
    rw [HFl.out, srt_len, hl1] at this
    omega
  go_wp2_with fail
  refine KP.out.mono ?_
  rintro e _ ⟨rfl, v3, rfl, ho3, hf3⟩
  have KL := Lib.hid (c_clone (Later.self v3.val) A (some ⟨bt, 0, none⟩) n ho3.reads (by omega))
  dsimp only [Later.self] at KL
  clear KP ho3 hf3
  go_wp2_with fail
  refine KL.out.mono ?_
  rintro e _ ⟨_, rfl, ⟨ad, cp, rfl, hO⟩, v4, rfl⟩
  have HO := Lib.hid hO
  clear hO KL
  go_wp2
  go_ret2
  exact RetP.of (HV.out (v3.up v4)) (by rw [HAe.out]; exact ListE.mk (Reads.of_own HO.out))
end Go.Proofs.Ytdcdhdlklppalaa

namespace Go.Proofs.Ytdcdhdlklppalaa
open Go.RowKit
set_option linter.unusedVariables false

/-- what the function value leaves: nothing, or the first order that it was told -/
structure IsoI (bo bd bp : Nat) (o : Option Nat) (l : List (List Nat)) (w : World) : Prop where
  ob : ∀ g, o = some g → g ≠ bo ∧ g ≠ bd
  no : l = [] → RowAt1 w bo 22 (.slice none 0 0) ∧ RowAt1 w bd 4 (.bool false)
  yes : ∀ q l', l = q :: l' → ∃ ar cr, RowAt1 w bo 22 (.slice ar q.length cr) ∧ RowV w bp o q ar cr ∧ RowAt1 w bd 4 (.bool true)
theorem IsoI.lt {bo bd bp : Nat} {o : Option Nat} {l : List (List Nat)} {w : World} (h : IsoI bo bd bp o l w) : bo < w.heap.size ∧ bd < w.heap.size := by
  cases l with
  | nil => exact ⟨(h.no rfl).1.lt, (h.no rfl).2.lt⟩
  | cons q l' =>
    obtain ⟨ar, cr, h1, _, h3⟩ := h.yes q l' rfl
    exact ⟨h1.lt, h3.lt⟩
theorem IsoI.kept {bo bd bp : Nat} (hb : bo ≠ bp ∧ bd ≠ bp) {o o' : Option Nat} {l : List (List Nat)} {w w' : World} (h : IsoI bo bd bp o l w) (hk : Kept bp o w w') (hn : NewB w o o') : IsoI bo bd bp o' l w' where
  ob := fun g hg => by
    rcases hn with e | ⟨x, e, hx⟩
    · exact h.ob g (e ▸ hg)
    · have hl := h.lt
      rw [e] at hg
      have : x = g := by simpa using hg
      subst this
      exact ⟨by omega, by omega⟩
  no := fun hl => by
    obtain ⟨h1, h2⟩ := h.no hl
    exact ⟨row1_kept h1 hk hb.1 (fun x hx => (h.ob x hx).1), row1_kept h2 hk hb.2 (fun x hx => (h.ob x hx).2)⟩
  yes := fun q l' hl => by
    obtain ⟨ar, cr, h1, h2, h3⟩ := h.yes q l' hl
    exact ⟨ar, cr, row1_kept h1 hk hb.1 (fun x hx => (h.ob x hx).1), h2.kept hk hn, row1_kept h3 hk hb.2 (fun x hx => (h.ob x hx).2)⟩

set_option maxRecDepth 100000 in
set_option maxHeartbeats 4000000 in
theorem c_isoDo {B bp : Nat} {W : World} {n bo bd : Nat} (hn : n ≤ 8) (hbp : bp < B) (h1 : bo < bp) (h2 : bd < bp) (hne : bo ≠ bd) (v : Off B (fun k => k = bp ∨ (k = bo ∨ k = bd)) W) (q : List Nat) (ad : Option Addr) (cp : Nat) (hq : q.length = n) (hP : PAt B bp v.val ad cp q) (hI : IsoI bo bd bp (ownBlk ad) [] v.val) :
    Calls Try.prog 37 #[.slice ad q.length cp, .pointer (some ⟨bo, 0, none⟩), .pointer (some ⟨bd, 0, none⟩)] v.val (fun e w' => e = .returned (.bool false) ∧ ∃ v' : Off B (fun k => k = bp ∨ (k = bo ∨ k = bd)) W, w' = v'.val ∧ PAt B bp v'.val ad cp q ∧ IsoI bo bd bp (ownBlk ad) [q] v'.val) := by
  obtain ⟨r1, r2⟩ := hI.no rfl
  have hvB := v.base
  have KC : Hid (Calls Try.prog 38 #[.slice ad q.length cp] v.val (RetOwn v.val.heap.size v.val (ints q))) := Lib.hid (by
    have := c_clone (Later.self v.val) (ints q) ad cp hP.2.reads (by rw [ints_len]; omega)
    rwa [ints_len] at this)
  have HR1 := Lib.hid r1
  have HR2 := Lib.hid r2
  have HFin : Hid (∀ (v1 : Later v.val.heap.size v.val) (ar : Option Addr) (cr : Nat), Own v.val.heap.size v1.val ar cr (ints q) → ∃ v' : Off B (fun k => k = bp ∨ (k = bo ∨ k = bd)) W, (v1.val.setCell ⟨bo, 0, none⟩ (.slice ar q.length cr)).setCell ⟨bd, 0, none⟩ (.bool true) = v'.val ∧ PAt B bp v'.val ad cp q ∧ IsoI bo bd bp (ownBlk ad) [q] v'.val) := Lib.hid (fun v1 ar cr ho => by
    have hP1 := hP.keep v1.below
    refine ⟨((v.up v1).store bo 0 (.inr (.inl rfl)) _).store bd 0 (.inr (.inr rfl)) _, rfl, ⟨?_, ?_⟩, hI.ob, (fun h => by cases h), fun q' l' hl => ?_⟩
    · exact row1_other (row1_other hP1.1 (by omega) _) (by omega) _
    · exact ownsRow_setCell_below (ownsRow_setCell_below hP1.2 (show bo < B by omega) _) (show bd < B by omega) _
    · cases hl
      have ho2 : Own v.val.heap.size ((v1.val.setCell ⟨bo, 0, none⟩ (.slice ar q.length cr)).setCell ⟨bd, 0, none⟩ (.bool true)) ar cr (ints q) := ownsRow_setCell_below (ownsRow_setCell_below ho (show bo < v.val.heap.size by omega) _) (show bd < v.val.heap.size by omega) _
      refine ⟨ar, cr, row1_other ((r1.keep v1.below).store) hne _, ⟨ho2.cap, ho2.reads, fun a ha => ?_⟩, (row1_other (r2.keep v1.below) (fun e => hne e.symm) _).store⟩
      have hb := ho2.blk a ha
      refine ⟨hb.2, by omega, fun e => ?_⟩
      have := hP.blk _ e
      omega)
  clear hP hI r1 r2 hq
  have hbo : bo < v.val.heap.size := HR1.out.lt
  have hbd : bd < v.val.heap.size := HR2.out.lt
  have z1 : ∀ y : Later v.val.heap.size v.val, y.val.cell? ⟨bo, 0, none⟩ = some (.slice none 0 0) := fun y => (HR1.out.keep y.below).c0
  have z2 : ∀ y : Later v.val.heap.size v.val, y.val.frozen? ⟨bo, 0, none⟩ = false := fun y => (HR1.out.keep y.below).frozen
  have z3 : ∀ (y : Later v.val.heap.size v.val) (x : Value), (y.val.setCell ⟨bo, 0, none⟩ x).cell? ⟨bd, 0, none⟩ = some (.bool false) := fun y x => (row1_other (HR2.out.keep y.below) (fun e => hne e.symm) x).c0
  have z4 : ∀ (y : Later v.val.heap.size v.val) (x : Value), (y.val.setCell ⟨bo, 0, none⟩ x).frozen? ⟨bd, 0, none⟩ = false := fun y x => (row1_other (HR2.out.keep y.below) (fun e => hne e.symm) x).frozen
  have hil : (ints q).length = q.length := ints_len q
  go_enter Try.func37, Try.ntmps37
  go_wp2_with (first | (go_at_call 38; (with_reducible refine (KC.out).mono ?_); rintro e _ ⟨_, rfl, ⟨ar, cr, rfl, hO⟩, v1, rfl⟩; rw [hil]; have HO := Lib.hid hO; clear hO; have y1 := z1 v1; have y2 := z2 v1) | fail)
  go_ret
  obtain ⟨v', e1, e2, e3⟩ := HFin.out v1 ar cr HO.out
  exact ⟨rfl, v', e1, e2, e3⟩
theorem iso_do (B bp : Nat) (W : World) (n bo bd : Nat) (hn : n ≤ 8) (hbp : bp < B) (h1 : bo < bp) (h2 : bd < bp) (hne : bo ≠ bd) : DoOn B bp W (fun k => k = bo ∨ k = bd) n false 37 #[.pointer (some ⟨bo, 0, none⟩), .pointer (some ⟨bd, 0, none⟩)] (IsoI bo bd bp) where
  plain := fun _ _ => by kernel_rfl
  keep := fun o o' l w w' h hk hn => h.kept ⟨by omega, by omega⟩ hk hn
  call := fun v l q ad cp hq hl hP hI => by
    have hl0 := hl rfl
    subst hl0
    exact c_isoDo hn hbp h1 h2 hne v q ad cp hq.len hP hI
end Go.Proofs.Ytdcdhdlklppalaa

namespace Go.Proofs.Ytdcdhdlklppalaa
open Go.RowKit
set_option linter.unusedVariables false

set_option maxRecDepth 100000 in
set_option maxHeartbeats 4000000 in
theorem c_isoDoR {B bp : Nat} {W : World} {n bo bd : Nat} (hn : n ≤ 8) (hbp : bp < B) (h1 : bo < bp) (h2 : bd < bp) (hne : bo ≠ bd) (v : Off B (fun k => k = bp ∨ (k = bo ∨ k = bd)) W) (q : List Nat) (ad : Option Addr) (cp : Nat) (hq : q.length = n) (hP : PAt B bp v.val ad cp q) (hI : IsoI bo bd bp (ownBlk ad) [] v.val) :
    Calls Try.prog 32 #[.slice ad q.length cp, .pointer (some ⟨bo, 0, none⟩), .pointer (some ⟨bd, 0, none⟩)] v.val (fun e w' => e = .returned (.bool false) ∧ ∃ v' : Off B (fun k => k = bp ∨ (k = bo ∨ k = bd)) W, w' = v'.val ∧ PAt B bp v'.val ad cp q ∧ IsoI bo bd bp (ownBlk ad) [q] v'.val) := by
  obtain ⟨r1, r2⟩ := hI.no rfl
  have hvB := v.base
  have HR1 := Lib.hid r1
  have HR2 := Lib.hid r2
  have HIq : Hid (IntsAt v.val.heap.size v.val ad (ints q)) := Lib.hid hP.2.reads
  have hcap := hP.2.cap
  have HFin : Hid (∀ (v1 : Later v.val.heap.size v.val) (ar : Option Addr) (cr : Nat), Own v.val.heap.size v1.val ar cr (ints q) → ∃ v' : Off B (fun k => k = bp ∨ (k = bo ∨ k = bd)) W, (v1.val.setCell ⟨bo, 0, none⟩ (.slice ar q.length cr)).setCell ⟨bd, 0, none⟩ (.bool true) = v'.val ∧ PAt B bp v'.val ad cp q ∧ IsoI bo bd bp (ownBlk ad) [q] v'.val) := Lib.hid (fun v1 ar cr ho => by
    have hP1 := hP.keep v1.below
    refine ⟨((v.up v1).store bo 0 (.inr (.inl rfl)) _).store bd 0 (.inr (.inr rfl)) _, rfl, ⟨?_, ?_⟩, hI.ob, (fun h => by cases h), fun q' l' hl => ?_⟩
    · exact row1_other (row1_other hP1.1 (by omega) _) (by omega) _
    · exact ownsRow_setCell_below (ownsRow_setCell_below hP1.2 (show bo < B by omega) _) (show bd < B by omega) _
    · cases hl
      have ho2 : Own v.val.heap.size ((v1.val.setCell ⟨bo, 0, none⟩ (.slice ar q.length cr)).setCell ⟨bd, 0, none⟩ (.bool true)) ar cr (ints q) := ownsRow_setCell_below (ownsRow_setCell_below ho (show bo < v.val.heap.size by omega) _) (show bd < v.val.heap.size by omega) _
      refine ⟨ar, cr, row1_other ((r1.keep v1.below).store) hne _, ⟨ho2.cap, ho2.reads, fun a ha => ?_⟩, (row1_other (r2.keep v1.below) (fun e => hne e.symm) _).store⟩
      have hb := ho2.blk a ha
      refine ⟨hb.2, by omega, fun e => ?_⟩
      have := hP.blk _ e
      omega)
  clear hP hI r1 r2
  have hq8 : q.length ≤ 8 := by omega
  clear hq
  have hbo : bo < v.val.heap.size := HR1.out.lt
  have hbd : bd < v.val.heap.size := HR2.out.lt
  have z1 : ∀ y : Later v.val.heap.size v.val, y.val.cell? ⟨bo, 0, none⟩ = some (.slice none 0 0) := fun y => (HR1.out.keep y.below).c0
  have z2 : ∀ y : Later v.val.heap.size v.val, y.val.frozen? ⟨bo, 0, none⟩ = false := fun y => (HR1.out.keep y.below).frozen
  have z3 : ∀ (y : Later v.val.heap.size v.val) (x : Value), (y.val.setCell ⟨bo, 0, none⟩ x).cell? ⟨bd, 0, none⟩ = some (.bool false) := fun y x => (row1_other (HR2.out.keep y.below) (fun e => hne e.symm) x).c0
  have z4 : ∀ (y : Later v.val.heap.size v.val) (x : Value), (y.val.setCell ⟨bo, 0, none⟩ x).frozen? ⟨bd, 0, none⟩ = false := fun y x => (row1_other (HR2.out.keep y.below) (fun e => hne e.symm) x).frozen
  have hil : (ints q).length = q.length := ints_len q
  have Hil := Lib.hid hil
  have HApp : Hid (∀ (ops : Array Oper) (rest : List Oper) (o : Oper) (a : Act) (Q : Exit → Act → World → Prop) (hgd : o.guard = none) (s x : Operand) (ho : o.op = .call { callee := .builtin .append, args := #[s, x], argTypes := #[22, 22] }) (hs : a.eval s = .slice none 0 0) (hx : a.eval x = .slice ad q.length cp), (∀ (v1 : Later v.val.heap.size v.val) (ar : Option Addr) (cr : Nat), Own v.val.heap.size v1.val ar cr (ints q) → wpList Try.prog ops Q rest (a.put o.dst (.slice ar q.length cr)) v1.val) → wpList Try.prog ops Q (o :: rest) a v.val) := Lib.hid (fun ops rest o a Q hgd s x ho hs hx h => by
    refine wpList_appends_g (B := v.val.heap.size) (Nat.le_refl _) hgd s x ho [] none 0 hs (Own.nil _ _) (ints q) ad cp (by rw [ints_len]; exact hx) HIq.out hcap (by rw [ints_len]; simp; omega) (fun w' ad' cap' ho' hg => ?_)
    rw [List.nil_append] at ho' ⊢
    rw [ints_len]
    have hb : Below v.val.heap.size v.val w' := ⟨hg.os, hg.tape, hg.output, hg.size, fun k hk => hg.block k hk (by simp [Value.ownBlock])⟩
    exact h ⟨w', hb, hg.size⟩ ad' cap' ho')
  clear hil hcap HIq
  go_enter Try.func32, Try.ntmps32
  go_wp2_with (first | (at_builtin; refine HApp.out _ _ _ _ _ rfl _ _ rfl rfl rfl ?_; intro v1 ar cr hO; have HO := Lib.hid hO; clear hO; have y1 := z1 v1; have y2 := z2 v1) | fail)
  go_ret
  obtain ⟨v', e1, e2, e3⟩ := HFin.out v1 ar cr HO.out
  exact ⟨rfl, v', e1, e2, e3⟩
theorem iso_doR (B bp : Nat) (W : World) (n bo bd : Nat) (hn : n ≤ 8) (hbp : bp < B) (h1 : bo < bp) (h2 : bd < bp) (hne : bo ≠ bd) : DoOn B bp W (fun k => k = bo ∨ k = bd) n false 32 #[.pointer (some ⟨bo, 0, none⟩), .pointer (some ⟨bd, 0, none⟩)] (IsoI bo bd bp) where
  plain := fun _ _ => by kernel_rfl
  keep := fun o o' l w w' h hk hn => h.kept ⟨by omega, by omega⟩ hk hn
  call := fun v l q ad cp hq hl hP hI => by
    have hl0 := hl rfl
    subst hl0
    exact c_isoDoR hn hbp h1 h2 hne v q ad cp hq.len hP hI
/-- what rotaref.Isomorphic answers -/
def IsoRef (r : Option (List Nat)) (v : Value) (w : World) : Prop := (r = none ∧ v = .tuple #[.slice none 0 0, .bool false]) ∨ ∃ q ad cp, r = some q ∧ v = .tuple #[.slice ad q.length cp, .bool true] ∧ Reads w.heap.size w (.slice ad q.length cp) (ints q)

set_option maxRecDepth 100000 in
set_option maxHeartbeats 16000000 in
theorem c_refIso {B : Nat} {W : World} (u : Later B W) (n1 n2 : Nat) (hn1 : n1 ≤ 8) (hn2 : n2 ≤ 8) (L1 L2 : List Nat) (a b : Option Addr) (cap capb : Nat) (h1 : IntsAt B W a (ints L1)) (h2 : IntsAt B W b (ints L2)) (hlen1 : L1.length ≤ 256) (hlen2 : L2.length ≤ 256) (hne1 : L1 ≠ []) (hne2 : L2 ≠ []) (hlt1 : ∀ x, x ∈ L1 → x < bit n1) (hlt2 : ∀ x, x ∈ L2 → x < bit n2) :
    Calls Try.prog 10 #[.agg #[.int .i64 n1, .slice a L1.length cap], .agg #[.int .i64 n2, .slice b L2.length capb]] u.val (RetP B W (IsoRef (ordF false n1 n2 L1 L2).head?)) := by
  have hs1 : (u.val.alloc (.cells #[.int .i64 n1, .slice a L1.length cap] 24)).heap.size = u.val.heap.size + 1 := by simp
  have hs2 : ((u.val.alloc (.cells #[.int .i64 n1, .slice a L1.length cap] 24)).alloc (.cells #[.int .i64 n2, .slice b L2.length capb] 24)).heap.size = u.val.heap.size + 2 := by simp
  have huB := u.size
  have hZs : Hid (((((u.val.alloc (.cells #[.int .i64 n1, .slice a L1.length cap] 24)).alloc (.cells #[.int .i64 n2, .slice b L2.length capb] 24)).alloc (.cells #[.slice none 0 0] 22)).alloc (.cells #[.bool false] 4)).heap.size = u.val.heap.size + 4) := Lib.hid (by simp)
  have HA : Hid (RowL ((((u.val.alloc (.cells #[.int .i64 n1, .slice a L1.length cap] 24)).alloc (.cells #[.int .i64 n2, .slice b L2.length capb] 24)).alloc (.cells #[.slice none 0 0] 22)).alloc (.cells #[.bool false] 4)) u.val.heap.size 24 [.int .i64 n1, .slice a L1.length cap]) := Lib.hid ((((RowL.new _ _ _).keep ((Below.refl _ _).alloc (Nat.le_refl _) _)).keep ((Below.refl _ _).alloc (Nat.le_refl _) _)).keep ((Below.refl _ _).alloc (Nat.le_refl _) _))
  have HB2 : Hid (RowL ((((u.val.alloc (.cells #[.int .i64 n1, .slice a L1.length cap] 24)).alloc (.cells #[.int .i64 n2, .slice b L2.length capb] 24)).alloc (.cells #[.slice none 0 0] 22)).alloc (.cells #[.bool false] 4)) (u.val.heap.size + 1) 24 [.int .i64 n2, .slice b L2.length capb]) := Lib.hid (by
    have := ((RowL.new (u.val.alloc (.cells #[.int .i64 n1, .slice a L1.length cap] 24)) 24 [.int .i64 n2, .slice b L2.length capb]).keep ((Below.refl _ _).alloc (Nat.le_refl _) (.cells #[.slice none 0 0] 22))).keep ((Below.refl _ _).alloc (Nat.le_refl _) (.cells #[.bool false] 4))
    rwa [hs1] at this)
  have R1 : Hid (RowAt1 ((((u.val.alloc (.cells #[.int .i64 n1, .slice a L1.length cap] 24)).alloc (.cells #[.int .i64 n2, .slice b L2.length capb] 24)).alloc (.cells #[.slice none 0 0] 22)).alloc (.cells #[.bool false] 4)) (u.val.heap.size + 2) 22 (.slice none 0 0)) := Lib.hid (by
    have h := row1_under (show RowAt1 (((u.val.alloc (.cells #[.int .i64 n1, .slice a L1.length cap] 24)).alloc (.cells #[.int .i64 n2, .slice b L2.length capb] 24)).alloc (.cells #[.slice none 0 0] 22)) ((u.val.alloc (.cells #[.int .i64 n1, .slice a L1.length cap] 24)).alloc (.cells #[.int .i64 n2, .slice b L2.length capb] 24)).heap.size 22 (.slice none 0 0) from heap_alloc_new _ _) (.cells #[.bool false] 4)
    rwa [hs2] at h)
  have R2 : Hid (RowAt1 ((((u.val.alloc (.cells #[.int .i64 n1, .slice a L1.length cap] 24)).alloc (.cells #[.int .i64 n2, .slice b L2.length capb] 24)).alloc (.cells #[.slice none 0 0] 22)).alloc (.cells #[.bool false] 4)) (u.val.heap.size + 2 + 1) 4 (.bool false)) := Lib.hid (by
    have h := heap_alloc_new (((u.val.alloc (.cells #[.int .i64 n1, .slice a L1.length cap] 24)).alloc (.cells #[.int .i64 n2, .slice b L2.length capb] 24)).alloc (.cells #[.slice none 0 0] 22)) (.cells #[.bool false] 4)
    rw [show (((u.val.alloc (.cells #[.int .i64 n1, .slice a L1.length cap] 24)).alloc (.cells #[.int .i64 n2, .slice b L2.length capb] 24)).alloc (.cells #[.slice none 0 0] 22)).heap.size = u.val.heap.size + 2 + 1 by simp] at h
    exact h)
  obtain ⟨x, hx⟩ : ∃ x : Later B W, x.val = ((((u.val.alloc (.cells #[.int .i64 n1, .slice a L1.length cap] 24)).alloc (.cells #[.int .i64 n2, .slice b L2.length capb] 24)).alloc (.cells #[.slice none 0 0] 22)).alloc (.cells #[.bool false] 4)) := ⟨(((u.alloc _).alloc _).alloc _).alloc _, rfl⟩
  have K : Hid (∀ (bo : Nat), u.val.heap.size + 2 = bo → Calls Try.prog 24 #[.agg #[.int .i64 n1, .slice a L1.length cap], .agg #[.int .i64 n2, .slice b L2.length capb], .func (.func 32) #[] #[.pointer (some ⟨bo, 0, none⟩), .pointer (some ⟨bo + 1, 0, none⟩)]] x.val (EachPost x.val (fun k => k = bo ∨ k = bo + 1) (IsoI bo (bo + 1)) (ordF false n1 n2 L1 L2))) := Lib.hid (fun bo hbo => by
    have hz := hZs.out
    rw [← hx] at hz
    have hR1 := R1.out
    have hR2 := R2.out
    rw [← hx, hbo] at hR1 hR2
    exact c_orders x n1 n2 hn1 hn2 L1 L2 a b cap capb h1 h2 hlen1 hlen2 hne1 hne2 hlt1 hlt2 (fun k => k = bo ∨ k = bo + 1) (fun k hk => by show k < x.val.heap.size; omega) (fun k hk => by omega) false 32 #[.pointer (some ⟨bo, 0, none⟩), .pointer (some ⟨bo + 1, 0, none⟩)] (IsoI bo (bo + 1))
      (fun bp W' k1 k2 k3 => iso_doR W'.heap.size bp W' n1 bo (bo + 1) hn1 k2 (by have : x.val.heap.size ≤ bp := k1; omega) (by have : x.val.heap.size ≤ bp := k1; omega) (by omega))
      (fun bp w k1 k2 => ⟨(fun g hg => by cases hg), fun _ => ⟨hR1.keep k2, hR2.keep k2⟩, (fun q l' h => by cases h)⟩))
  have HV : Hid (∀ (bo : Nat), u.val.heap.size + 2 = bo → ∀ v : Off x.val.heap.size (fun k => k = bo ∨ k = bo + 1) x.val, ∃ w : Later B W, w.val = v.val) := Lib.hid (fun bo hbo v => by
    have hz := hZs.out
    rw [← hx] at hz
    have hb := v.below (B0 := B) (by have := x.size; omega) (fun k hk => by omega)
    exact ⟨x.to v.val hb, rfl⟩)
  rw [← hx] at HA HB2
  have hp1 : ∀ (args : Array Value) (w : World), (callFunc 32 args).run Try.prog w = .ok (.enter 32 args) w := fun _ _ => by kernel_rfl
  have HX := Lib.hid hx
  clear h1 h2 hs1 hs2 huB hZs R1 R2 hlt1 hlt2 hne1 hne2 hx
  go_enter Try.func10, Try.ntmps10
  go_upto_region 3 with fail
  rw [← HX.out]
  rw [show u.val.heap.size + 1 + 1 = u.val.heap.size + 2 from rfl]
  have p0 : x.val.cell? ⟨u.val.heap.size, 0, none⟩ = some (.int .i64 n1) := HA.out.cell rfl
  have p1 : x.val.cell? ⟨u.val.heap.size, 1, none⟩ = some (.slice a L1.length cap) := HA.out.cell rfl
  have p2 : x.val.cell? ⟨u.val.heap.size + 1, 0, none⟩ = some (.int .i64 n2) := HB2.out.cell rfl
  have p3 : x.val.cell? ⟨u.val.heap.size + 1, 1, none⟩ = some (.slice b L2.length capb) := HB2.out.cell rfl
  clear HX HA HB2
  generalize hbo : u.val.heap.size + 2 = bo at *
  have K := Lib.hid (K.out bo rfl)
  have HV := Lib.hid (HV.out bo rfl)
  clear hbo
  generalize u.val.heap.size = g at *
  generalize g + 1 = g' at *
  generalize hF : ordF false n1 n2 L1 L2 = F at *
  have HF := Lib.hid hF
  clear hF
  cases F with
  | nil =>
    have K2 : Hid (Calls Try.prog 24 #[.agg #[.int .i64 n1, .slice a L1.length cap], .agg #[.int .i64 n2, .slice b L2.length capb], .func (.func 32) #[] #[.pointer (some ⟨bo, 0, none⟩), .pointer (some ⟨bo + 1, 0, none⟩)]] x.val (fun e w' => e = .returned (.tuple #[]) ∧ ∃ v' : Off x.val.heap.size (fun k => k = bo ∨ k = bo + 1) x.val, w' = v'.val ∧ RowAt1 v'.val bo 22 (.slice none 0 0) ∧ RowAt1 v'.val (bo + 1) 4 (.bool false))) := Lib.hid (K.out.mono (by
      rintro e _ ⟨rfl, v', rfl, bp, o, hbp, hI⟩
      exact ⟨rfl, v', rfl, hI.no rfl⟩))
    clear K
    go_upto_region 4 with (first | (go_at_call 24; (with_reducible refine (K2.out).mono ?_); rintro e _ ⟨rfl, v', rfl, c0, c1⟩; have C0 := Lib.hid c0; have C1 := Lib.hid c1; clear c0 c1) | fail)
    have e0 : ∀ y : Later v'.val.heap.size v'.val, y.val.cell? ⟨bo, 0, none⟩ = some (.slice none 0 0) := fun y => (C0.out.keep y.below).c0
    have e1 : ∀ y : Later v'.val.heap.size v'.val, y.val.cell? ⟨bo + 1, 0, none⟩ = some (.bool false) := fun y => (C1.out.keep y.below).c0
    obtain ⟨y, hy⟩ : ∃ y : Later v'.val.heap.size v'.val, y.val = v'.val := ⟨Later.self _, rfl⟩
    rw [← hy]
    clear hy
    refine wp_region_later y (by kernel_rfl) (by kernel_rfl) (fun _ => ?_)
    repeat (first | go_big_quiet_step ((fail)) | (refine wpQuiet_step (fun K hK => ?_); go_simp; refine ⟨_, fun _ => rfl, ?_⟩; refine hK _ ?_; clear hK K))
    refine wpQuiet_nil ?_
    intro y
    go_wp2
    go_ret2
    obtain ⟨w, hw⟩ := HV.out (v'.up y)
    exact RetP.of ⟨w, hw⟩ (.inl ⟨rfl, rfl⟩)
  | cons q F' =>
    have K2 : Hid (Calls Try.prog 24 #[.agg #[.int .i64 n1, .slice a L1.length cap], .agg #[.int .i64 n2, .slice b L2.length capb], .func (.func 32) #[] #[.pointer (some ⟨bo, 0, none⟩), .pointer (some ⟨bo + 1, 0, none⟩)]] x.val (fun e w' => e = .returned (.tuple #[]) ∧ ∃ v' : Off x.val.heap.size (fun k => k = bo ∨ k = bo + 1) x.val, w' = v'.val ∧ ∃ ar cr, RowAt1 v'.val bo 22 (.slice ar q.length cr) ∧ RowAt1 v'.val (bo + 1) 4 (.bool true) ∧ Reads v'.val.heap.size v'.val (.slice ar q.length cr) (ints q))) := Lib.hid (K.out.mono (by
      rintro e _ ⟨rfl, v', rfl, bp, o, hbp, hI⟩
      obtain ⟨ar, cr, h1, h2, h3⟩ := hI.yes q F' rfl
      refine ⟨rfl, v', rfl, ar, cr, h1, h3, ?_⟩
      have := Reads.mk h2.ints h2.nil
      rwa [ints_len] at this))
    clear K
    go_upto_region 4 with (first | (go_at_call 24; (with_reducible refine (K2.out).mono ?_); rintro e _ ⟨rfl, v', rfl, ar, cr, c0, c1, hR⟩; have C0 := Lib.hid c0; have C1 := Lib.hid c1; have HR := Lib.hid hR; clear c0 c1 hR) | fail)
    have e0 : ∀ y : Later v'.val.heap.size v'.val, y.val.cell? ⟨bo, 0, none⟩ = some (.slice ar q.length cr) := fun y => (C0.out.keep y.below).c0
    have e1 : ∀ y : Later v'.val.heap.size v'.val, y.val.cell? ⟨bo + 1, 0, none⟩ = some (.bool true) := fun y => (C1.out.keep y.below).c0
    obtain ⟨y, hy⟩ : ∃ y : Later v'.val.heap.size v'.val, y.val = v'.val := ⟨Later.self _, rfl⟩
    rw [← hy]
    clear hy
    refine wp_region_later y (by kernel_rfl) (by kernel_rfl) (fun _ => ?_)
    repeat (first | go_big_quiet_step ((fail)) | (refine wpQuiet_step (fun K hK => ?_); go_simp; refine ⟨_, fun _ => rfl, ?_⟩; refine hK _ ?_; clear hK K))
    refine wpQuiet_nil ?_
    intro y
    go_wp2
    go_ret2
    obtain ⟨w, hw⟩ := HV.out (v'.up y)
    exact RetP.of ⟨w, hw⟩ (.inr ⟨q, ar, cr, rfl, rfl, (HR.out.keep y.below).mono y.size⟩)
end Go.Proofs.Ytdcdhdlklppalaa
