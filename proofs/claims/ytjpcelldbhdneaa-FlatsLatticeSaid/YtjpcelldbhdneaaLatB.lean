
/-
  flats.Broken.
-/
import Derived.Test.YtjpcelldbhdneaaAxAll
import Derived.Test.YtjpcelldbhdneaaCFun
import Derived.Test.YtjpcelldbhdneaaLatPl
namespace Go.Proofs.Ytjpcelldbhdneaa
open Go.RowKit
set_option linter.unusedVariables false

theorem drop1_lt' (t : Nat) (ht : t < 256) : drop1 t < 256 := drop1_lt t ht
/-- the list of circuits, its first k struck of their least elements -/
def brkT (C : List Nat) (k j : Nat) : Int := if j < k then ((drop1 (C.getD j 0) : Nat) : Int) else ((C.getD j 0 : Nat) : Int)
theorem brkT_zero (C : List Nat) : tabL C.length (brkT C 0) = ints C := by
  apply List.ext_getElem
  · simp [tabL, ints]
  · intro i h1 h2
    have hi : i < C.length := by simpa [tabL] using h1
    simp [tabL, ints, brkT, hi]
theorem brkT_all (C : List Nat) : tabL C.length (brkT C C.length) = ints (C.map drop1) := by
  apply List.ext_getElem
  · simp [tabL, ints]
  · intro i h1 h2
    have hi : i < C.length := by simpa [tabL] using h1
    simp [tabL, ints, brkT, hi]
theorem brok_any (C : List Nat) (s : Nat) : (ints (C.map drop1)).any (fun x => decide (x.toNat &&& s = x.toNat)) = !brokP C s := by
  rw [Bool.eq_iff_iff, List.any_eq_true, Bool.not_eq_true', ← Bool.not_eq_true]
  unfold brokP
  rw [List.all_eq_true]
  constructor
  · rintro ⟨x, hx, h⟩ hall
    obtain ⟨n, hn, rfl⟩ := List.mem_map.1 hx
    obtain ⟨c, hc, rfl⟩ := List.mem_map.1 hn
    have h1 := hall c hc
    have h2 : drop1 c &&& s = drop1 c := by simpa using h
    rw [or_iff_and'.2 h2] at h1
    simp at h1
  · intro hall
    apply Classical.byContradiction
    intro hno
    apply hall
    intro c hc
    have : ¬ drop1 c ||| s = s := fun h => hno ⟨((drop1 c : Nat) : Int), List.mem_map.2 ⟨_, List.mem_map.2 ⟨c, hc, rfl⟩, rfl⟩, by
      rw [or_iff_and'] at h
      simpa using h⟩
    simp [this]

set_option maxRecDepth 100000 in
set_option maxHeartbeats 2000000 in
theorem c_brokTell {B : Nat} {W : World} (u : Later B W) (b s g : Nat) (hb : b < 256) (hs : s < 256) (hg : g < B) (hbox : W.cell? ⟨g, 0, none⟩ = some (.int .i64 s)) :
    Calls Try.prog 185 #[.int .i64 b, .pointer (some ⟨g, 0, none⟩)] u.val (Ret B W (.bool (decide (b &&& s = b)))) := by
  have c0 : u.val.cell? ⟨g, 0, none⟩ = some (.int .i64 s) := by rw [u.cell hg, hbox]
  have o1 := i64_and b s (by omega) (by omega)
  clear hbox
  go_enter Try.func185, Try.ntmps185
  go_wp2
  go_ret
  exact Ret.mk u (vbool (bool_dec (by rw [beq_iff_eq]; omega)))

set_option maxRecDepth 100000 in
set_option maxHeartbeats 4000000 in
theorem c_flBroken_no {B : Nat} {W : World} (u : Later B W) (n : Int) (l : List Int) (a : Option Addr) (cap : Nat) (e : Int) (h : IntsAt B W a l) (hlen : l.length ≤ 4611686018427387904) (he : MatIs n l e) (h0 : e ≠ 0) :
    Calls Try.prog 77 #[.agg #[.int .i64 n, .slice a l.length cap]] u.val (RetP B W (ListE [] e)) := by
  have T0 : Hid (Two (u.val.alloc (.cells #[.int .i64 n, .slice a l.length cap] 24)) u.val.heap.size 24 (.int .i64 n) (.slice a l.length cap)) := Lib.hid (Two.new _ _ _ _)
  have hrr : u.val.heap.size < (u.val.alloc (.cells #[.int .i64 n, .slice a l.length cap] 24)).heap.size := by simp
  have hI : IntsAt (u.val.alloc (.cells #[.int .i64 n, .slice a l.length cap] 24)).heap.size (u.val.alloc (.cells #[.int .i64 n, .slice a l.length cap] 24)) a l := h.to (u.alloc _)
  have HV : Hid (∀ v : Later (u.val.alloc (.cells #[.int .i64 n, .slice a l.length cap] 24)).heap.size (u.val.alloc (.cells #[.int .i64 n, .slice a l.length cap] 24)), ∃ w : Later B W, w.val = v.val) := Lib.hid (fun v => ⟨(u.alloc _).up v, rfl⟩)
  have q0 : ∀ w : Later (u.val.alloc (.cells #[.int .i64 n, .slice a l.length cap] 24)).heap.size (u.val.alloc (.cells #[.int .i64 n, .slice a l.length cap] 24)), w.val.cell? ⟨u.val.heap.size, 0, none⟩ = some (.int .i64 n) := fun w => (T0.out.keep w.below).c0
  have q1 : ∀ w : Later (u.val.alloc (.cells #[.int .i64 n, .slice a l.length cap] 24)).heap.size (u.val.alloc (.cells #[.int .i64 n, .slice a l.length cap] 24)), w.val.cell? ⟨u.val.heap.size, 1, none⟩ = some (.slice a l.length cap) := fun w => (T0.out.keep w.below).c1
  have p0 : (u.val.alloc (.cells #[.int .i64 n, .slice a l.length cap] 24)).cell? ⟨u.val.heap.size, 0, none⟩ = some (.int .i64 n) := T0.out.c0
  have p1 : (u.val.alloc (.cells #[.int .i64 n, .slice a l.length cap] 24)).cell? ⟨u.val.heap.size, 1, none⟩ = some (.slice a l.length cap) := T0.out.c1
  have K := Lib.hid (fun v : Later (u.val.alloc (.cells #[.int .i64 n, .slice a l.length cap] 24)).heap.size (u.val.alloc (.cells #[.int .i64 n, .slice a l.length cap] 24)) => c_axCirc_no v n l a cap e hI hlen he h0)
  have KC : Hid (Calls Try.prog 23 #[.agg #[.int .i64 n, .slice a l.length cap]] (u.val.alloc (.cells #[.int .i64 n, .slice a l.length cap] 24)) (RetP (u.val.alloc (.cells #[.int .i64 n, .slice a l.length cap] 24)).heap.size (u.val.alloc (.cells #[.int .i64 n, .slice a l.length cap] 24)) (ListE [] e))) := Lib.hid (K.out (Later.self _))
  have d0 : (e != 0) = true := by rw [bne_iff_ne]; exact h0
  clear h hI he h0 K
  go_enter Try.func77, Try.ntmps77
  go_wp2_with (first | (go_at_call 23; (with_reducible refine (KC.out).mono ?_); rintro e _ ⟨_, rfl, ⟨_, rfl, ⟨ad1, cp1, rfl, hI1, hcp1⟩⟩, v1, rfl⟩))
  go_ret2
  exact RetP.of (HV.out v1) ListE.no

set_option maxRecDepth 100000 in
set_option maxHeartbeats 8000000 in
theorem c_flBroken {B : Nat} {W : World} (u : Later B W) (m : Nat) (hm : m ≤ 8) (l : List Int) (a : Option Addr) (cap : Nat) (h : IntsAt B W a l) (hlen : l.length ≤ 4611686018427387904) (he : MatIs (m : Int) l 0) (hC0 : ∀ i, i < (those m (circP (toN l))).length → (those m (circP (toN l))).getD i 0 ≠ 0) :
    Calls Try.prog 77 #[.agg #[.int .i64 m, .slice a l.length cap]] u.val (RetP B W (ListE (ints (those m (brokP (those m (circP (toN l)))))) 0)) := by
  have hb := bit_le m hm
  have hbc := bit_cast m
  have T0 : Hid (Two (u.val.alloc (.cells #[.int .i64 m, .slice a l.length cap] 24)) u.val.heap.size 24 (.int .i64 m) (.slice a l.length cap)) := Lib.hid (Two.new _ _ _ _)
  have hrr : u.val.heap.size < (u.val.alloc (.cells #[.int .i64 m, .slice a l.length cap] 24)).heap.size := by simp
  have hI : IntsAt (u.val.alloc (.cells #[.int .i64 m, .slice a l.length cap] 24)).heap.size (u.val.alloc (.cells #[.int .i64 m, .slice a l.length cap] 24)) a l := h.to (u.alloc _)
  have HV : Hid (∀ v : Later (u.val.alloc (.cells #[.int .i64 m, .slice a l.length cap] 24)).heap.size (u.val.alloc (.cells #[.int .i64 m, .slice a l.length cap] 24)), ∃ w : Later B W, w.val = v.val) := Lib.hid (fun v => ⟨(u.alloc _).up v, rfl⟩)
  have q0 : ∀ w : Later (u.val.alloc (.cells #[.int .i64 m, .slice a l.length cap] 24)).heap.size (u.val.alloc (.cells #[.int .i64 m, .slice a l.length cap] 24)), w.val.cell? ⟨u.val.heap.size, 0, none⟩ = some (.int .i64 m) := fun w => (T0.out.keep w.below).c0
  have q1 : ∀ w : Later (u.val.alloc (.cells #[.int .i64 m, .slice a l.length cap] 24)).heap.size (u.val.alloc (.cells #[.int .i64 m, .slice a l.length cap] 24)), w.val.cell? ⟨u.val.heap.size, 1, none⟩ = some (.slice a l.length cap) := fun w => (T0.out.keep w.below).c1
  have p0 : (u.val.alloc (.cells #[.int .i64 m, .slice a l.length cap] 24)).cell? ⟨u.val.heap.size, 0, none⟩ = some (.int .i64 m) := T0.out.c0
  have p1 : (u.val.alloc (.cells #[.int .i64 m, .slice a l.length cap] 24)).cell? ⟨u.val.heap.size, 1, none⟩ = some (.slice a l.length cap) := T0.out.c1
  have KC : Hid (Calls Try.prog 23 #[.agg #[.int .i64 m, .slice a l.length cap]] (u.val.alloc (.cells #[.int .i64 m, .slice a l.length cap] 24)) (RetP (u.val.alloc (.cells #[.int .i64 m, .slice a l.length cap] 24)).heap.size (u.val.alloc (.cells #[.int .i64 m, .slice a l.length cap] 24)) (ListO (u.val.alloc (.cells #[.int .i64 m, .slice a l.length cap] 24)).heap.size (ints (those m (circP (toN l)))) 0))) := Lib.hid (c_axCircO (Later.self _) m hm l a cap hI hlen he)
  have HCb : Hid (∀ i, i < (those m (circP (toN l))).length → (those m (circP (toN l))).getD i 0 < 256 ∧ 1 ≤ (those m (circP (toN l))).getD i 0) := Lib.hid (fun i hi => by
    have h1 := hC0 i hi
    have h2 : (those m (circP (toN l))).getD i 0 ∈ those m (circP (toN l)) := by simp [hi]
    have := (mem_those.1 h2).1
    omega)
  have HCl : Hid ((those m (circP (toN l))).length ≤ 256) := Lib.hid (by have := thoseTo_len (circP (toN l)) (bit m); have e : those m (circP (toN l)) = thoseTo (circP (toN l)) (bit m) := rfl; rw [e]; omega)
  clear h hI he hC0 hlen
  generalize those m (circP (toN l)) = C at *
  go_enter Try.func77, Try.ntmps77
  go_upto_region 4 with (first | (go_at_call 23; ((with_reducible refine (KC.out).mono ?_); rintro e _ ⟨_, rfl, ⟨ad, cp, rfl, hO⟩, v1, rfl⟩)))
  have HO : Hid (Own (u.val.alloc (.cells #[.int .i64 m, .slice a l.length cap] 24)).heap.size v1.val ad cp (tabL C.length (brkT C 0))) := Lib.hid (by rw [brkT_zero]; exact hO)
  clear hO KC q1 p0 p1 T0
  rw [ints_len C]
  generalize hgu : u.val.heap.size = gu at *
  clear hgu
  generalize (u.val.alloc (.cells #[.int .i64 m, .slice a l.length cap] 24)) = X at *
  have hcl := HCl.out
  go_wp2
  go_loopw [20] (fun i wr => ∃ (k : Nat) (v : Later X.heap.size X), k ≤ C.length ∧ i = .int .i64 k ∧ wr = v.val ∧ Hid (Own X.heap.size v.val ad cp (tabL C.length (brkT C k)))) (fun i _ => C.length - (intOf i).toNat)
  case atStart => exact ⟨0, v1, by omega, rfl, rfl, HO⟩
  case round =>
    clear v1 HO
    obtain ⟨k, v, hk, rfl, rfl, HO⟩ := hrel
    by_cases hlt : k < C.length
    · obtain ⟨g, rfl⟩ : ∃ g, ad = some ⟨g, 0, none⟩ := own_some HO.out (by intro e; have h9 : C.length = 0 := by { have := congrArg List.length e; rwa [tabL_len] at this }; omega)
      have c0 : v.val.cell? ⟨g, k, none⟩ = some (.int .i64 ((C.getD k 0 : Nat) : Int)) := by
        have := HO.out.cellAt (i := k) (by rw [tabL_len]; exact hlt)
        rwa [tabL_getD hlt, show brkT C k k = ((C.getD k 0 : Nat) : Int) by unfold brkT; rw [if_neg (by omega)]] at this
      have c1 := HO.out.fz k
      have hgX := HO.out.base
      obtain ⟨h8, h1⟩ := HCb.out k hlt
      have o1 := i64_drop1 (C.getD k 0) h8 h1
      have HN : Hid (Own X.heap.size (v.val.setCell ⟨g, k, none⟩ (.int .i64 ((drop1 (C.getD k 0) : Nat) : Int))) (some ⟨g, 0, none⟩) cp (tabL C.length (brkT C (k + 1)))) := Lib.hid (by
        have := HO.out.put (i := k) (by rw [tabL_len]; exact hlt) ((drop1 (C.getD k 0) : Nat) : Int)
        rwa [tabL_set C.length (brkT C k) (brkT C (k + 1)) hlt _ (fun j _ => by
          unfold brkT
          by_cases e : j = k
          · subst e; rw [if_pos (by omega), if_pos rfl]
          · rw [if_neg e]
            by_cases e2 : j < k
            · rw [if_pos (by omega), if_pos e2]
            · rw [if_neg (by omega), if_neg e2])] at this)
      clear HO
      generalize drop1 (C.getD k 0) = d at *
      generalize C.getD k 0 = x at *
      have hx1 : 0 ≤ (x : Int) - 1 := by omega
      go_wp2
      go_roundw
      case rel => exact ⟨k+1, v.set ⟨g, k, none⟩ hgX _, by omega, by go_num, rfl, HN⟩
      case measure => simp [intOf]; omega
    · have hke : k = C.length := by omega
      rw [hke, brkT_all] at HO
      have HR : Hid (IntsAt v.val.heap.size v.val ad (ints (C.map drop1))) := Lib.hid HO.out.reads
      have HD8 : Hid (∀ i, i < (ints (C.map drop1)).length → ∃ d : Nat, (ints (C.map drop1)).getD i 0 = (d : Int) ∧ d < 256) := Lib.hid (fun i hi => by
        rw [ints_len, List.length_map] at hi
        refine ⟨drop1 (C.getD i 0), ?_, drop1_lt _ (HCb.out i hi).1⟩
        rw [ints_getD]
        simp [hi])
      have r0 : ∀ w : Later v.val.heap.size v.val, w.val.cell? ⟨gu, 0, none⟩ = some (.int .i64 m) := fun w => q0 (v.up w)
      have HVB : Hid (∀ w : Later v.val.heap.size v.val, ∃ w' : Later B W, w'.val = w.val) := Lib.hid (fun w => HV.out (v.up w))
      have hlm : (ints (C.map drop1)).length = C.length := by rw [ints_len, List.length_map]
      have HBR : Hid (∀ s, (ints (C.map drop1)).any (fun x => decide (x.toNat &&& s = x.toNat)) = !brokP C s) := Lib.hid (brok_any C)
      clear HO HCb hke q0 HV
      generalize brokP C = bp at *
      generalize ints (C.map drop1) = D at *
      rw [← hlm]
      have hdl : D.length ≤ 256 := by omega
      have hltf : ¬ k < D.length := by omega
      clear hlm
      generalize v.val = V at *
      obtain ⟨y, hy⟩ : ∃ y : Later V.heap.size V, y.val = V := ⟨Later.self _, rfl⟩
      rw [← hy]
      clear hy
      go_wp2
      go_loopw [8, 36] (fun o i wr => ∃ (s : Nat) (ad2 : Option Addr) (cp2 : Nat) (v : Later V.heap.size V), s ≤ bit m ∧ i = .int .i64 s ∧ o = .slice ad2 (ints (thoseTo bp s)).length cp2 ∧ wr = v.val ∧ Hid (Own V.heap.size v.val ad2 cp2 (ints (thoseTo bp s)))) (fun _ i _ => bit m - (intOf i).toNat)
      case atStart => exact ⟨0, none, 0, y, by omega, rfl, rfl, rfl, Lib.hid (Own.nil _ _)⟩
      case round =>
        clear y
        obtain ⟨s, ad2, cp2, v, hs, rfl, rfl, rfl, HO⟩ := hrel
        have HE := Lib.hid (thoseTo_step bp s)
        have HL : Hid ((ints (thoseTo bp s)).length ≤ 256) := Lib.hid (by rw [ints_len]; have := thoseTo_len bp s; omega)
        rcases nlt s (bit m) with ⟨hlt2, d0⟩ | ⟨hlt2, d0⟩
        · have d0' : decide ((s : Int) < (bit m : Int)) = true := decide_eq_true (by omega)
          have TB : RowAt1 (v.val.alloc (.cells #[.int .i64 (s : Int)] 3)) v.val.heap.size 3 (.int .i64 (s : Int)) := heap_alloc_new _ _
          have KF : Hid (Calls Try.prog 145 #[.slice ad D.length cp, .func (.func 185) #[] #[.pointer (some ⟨v.val.heap.size, 0, none⟩)]] (v.val.alloc (.cells #[.int .i64 (s : Int)] 3)) (Ret (v.val.alloc (.cells #[.int .i64 (s : Int)] 3)).heap.size (v.val.alloc (.cells #[.int .i64 (s : Int)] 3)) (.bool (!bp s)))) := Lib.hid (by
            have := c_containsFunc (Later.self (v.val.alloc (.cells #[.int .i64 (s : Int)] 3))) D ad cp (HR.out.to (v.alloc _)) (by omega) 185 #[.pointer (some ⟨v.val.heap.size, 0, none⟩)] (fun x => decide (x.toNat &&& s = x.toNat)) (fun args w => by kernel_rfl) (fun w i hi => by
              obtain ⟨d, hd, hd8⟩ := HD8.out i hi
              rw [hd]
              exact c_brokTell w d s v.val.heap.size hd8 (by omega) TB.lt TB.c0)
            rwa [HBR.out s] at this)
          have HOz : Hid (Own V.heap.size (v.val.alloc (.cells #[.int .i64 (s : Int)] 3)) ad2 cp2 (ints (thoseTo bp s))) := Lib.hid (HO.out.alloc _)
          have HVz : Hid (∀ w : Later (v.val.alloc (.cells #[.int .i64 (s : Int)] 3)).heap.size (v.val.alloc (.cells #[.int .i64 (s : Int)] 3)), ∃ w' : Later V.heap.size V, w'.val = w.val) := Lib.hid (fun w => ⟨(v.alloc _).up w, rfl⟩)
          have z0 : ∀ w : Later (v.val.alloc (.cells #[.int .i64 (s : Int)] 3)).heap.size (v.val.alloc (.cells #[.int .i64 (s : Int)] 3)), w.val.cell? ⟨v.val.heap.size, 0, none⟩ = some (.int .i64 (s : Int)) := fun w => (TB.keep w.below).c0
          clear TB HO
          generalize thoseTo bp s = Lt at *
          rcases btf (bp s) with g1 | g1
          · rw [g1] at KF
            have G1 := Lib.hid g1; clear g1
            have KF2 : Hid (Calls Try.prog 145 #[.slice ad D.length cp, .func (.func 185) #[] #[.pointer (some ⟨v.val.heap.size, 0, none⟩)]] (v.val.alloc (.cells #[.int .i64 (s : Int)] 3)) (Ret (v.val.alloc (.cells #[.int .i64 (s : Int)] 3)).heap.size (v.val.alloc (.cells #[.int .i64 (s : Int)] 3)) (.bool false))) := KF
            clear KF
            go_wp2_with (first | (go_at_call 145; (with_reducible refine (KF2.out).mono ?_); rintro e _ ⟨rfl, v2, rfl⟩) | (at_builtin; refine wpList_push (B := V.heap.size) (W := V) (w := v2.val) (by obtain ⟨w', hw'⟩ := HVz.out v2; rw [← hw']; exact w'.below) (by obtain ⟨w', hw'⟩ := HVz.out v2; rw [← hw']; exact w'.size) rfl _ _ rfl (ints Lt) ad2 cp2 (s : Int) rfl (HOz.out.keep v2.below) rfl (by have := HL.out; omega) ?_; intro u2 ad3 cp3 hown))
            go_roundw
            case rel =>
              refine ⟨s+1, ad3, cp3, u2, by omega, by go_num, ?_, rfl, ?_⟩
              · rw [HE.out, if_pos G1.out, ints_snoc]; simp
              · rw [HE.out, if_pos G1.out, ints_snoc]; exact Lib.hid hown
            case measure => simp [intOf]; omega
          · rw [g1] at KF
            have G1 := Lib.hid g1; clear g1
            have KF2 : Hid (Calls Try.prog 145 #[.slice ad D.length cp, .func (.func 185) #[] #[.pointer (some ⟨v.val.heap.size, 0, none⟩)]] (v.val.alloc (.cells #[.int .i64 (s : Int)] 3)) (Ret (v.val.alloc (.cells #[.int .i64 (s : Int)] 3)).heap.size (v.val.alloc (.cells #[.int .i64 (s : Int)] 3)) (.bool true))) := KF
            clear KF
            go_wp2_with (first | (go_at_call 145; (with_reducible refine (KF2.out).mono ?_); rintro e _ ⟨rfl, v2, rfl⟩))
            go_roundw
            case rel =>
              have hne : ¬ bp s = true := by rw [G1.out]; decide
              obtain ⟨w', hw'⟩ := HVz.out v2
              refine ⟨s+1, ad2, cp2, w', by omega, by go_num, ?_, hw'.symm, ?_⟩
              · rw [HE.out, if_neg hne]
              · rw [HE.out, if_neg hne, hw']; exact Lib.hid (HOz.out.keep v2.below)
            case measure => simp [intOf]; omega
        · have hse : Hid (s = bit m) := Lib.hid (by omega)
          have d0' : decide ((s : Int) < (bit m : Int)) = false := decide_eq_false (by omega)
          go_wp2
          go_ret2
          rw [hse.out] at HO ⊢
          exact RetP.of (HVB.out v) (ListE.mk (Reads.of_own HO.out))

end Go.Proofs.Ytjpcelldbhdneaa
