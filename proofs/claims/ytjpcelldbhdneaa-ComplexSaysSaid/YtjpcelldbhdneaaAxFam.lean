
/-
  axioms.family and its kinds: Independents, Circuits, Flats, Hyperplanes.
-/
import Derived.Deep.CutRange
import Derived.Deep.CutBlock
import Derived.Test.YtjpcelldbhdneaaAxRanks
import Derived.Test.YtjpcelldbhdneaaAxPl
import Derived.Test.YtjpcelldbhdneaaBox1
namespace Go.Proofs.Ytjpcelldbhdneaa
open Go.RowKit
set_option linter.unusedVariables false

/-- a result: a list of the call's own, and an error -/
def ListO (B : Nat) (xs : List Int) (e : Int) (v : Value) (w : World) : Prop := ∃ ad cp, v = .tuple #[.slice ad xs.length cp, .int .i64 e] ∧ Own B w ad cp xs
theorem ListO.e {B : Nat} {xs : List Int} {e : Int} {v : Value} {w : World} (h : ListO B xs e v w) : ListE xs e v w := by
  obtain ⟨ad, cp, rfl, ho⟩ := h
  exact ⟨_, rfl, Reads.of_own ho⟩
theorem listE_of {B : Nat} {W : World} {P : Program} {f : FuncId} {args : Array Value} {w : World} {xs : List Int} {e : Int} {B' : Nat} (h : Calls P f args w (RetP B W (ListO B' xs e))) : Calls P f args w (RetP B W (ListE xs e)) := h.mono fun _ _ ⟨v, h1, h2, h3⟩ => ⟨v, h1, h2.e, h3⟩

/-- a function value that tells of a table of ranks and a set whether the set is of a kind -/
def TellsR (B : Nat) (W : World) (m : Nat) (L : List Nat) (k : FuncId) (caps : Array Value) (p : Nat → Bool) : Prop :=
  ∀ (x : Later B W) (g c : Nat), g < x.val.heap.size → ITab x.val g (bit m) (fun j => (rk L j : Int)) → ∀ (v : Later x.val.heap.size x.val) (s : Nat), s < bit m → Calls Try.prog k (#[.slice (some ⟨g, 0, none⟩) (bit m) c, .int .i64 (s : Int)] ++ caps) v.val (Ret x.val.heap.size x.val (.bool (p s)))

set_option maxRecDepth 100000 in
set_option maxHeartbeats 8000000 in
theorem c_axFamilyO {B : Nat} {W : World} (u : Later B W) (m : Nat) (hm : m ≤ 8) (l : List Int) (a : Option Addr) (cap : Nat) (h : IntsAt B W a l) (hlen : l.length ≤ 4611686018427387904) (he : MatIs (m : Int) l 0) (k : FuncId) (caps : Array Value) (p : Nat → Bool) (hpl : Plain k) (hk : TellsR B W m (toN l) k caps p) :
    Calls Try.prog 129 #[.agg #[.int .i64 m, .slice a l.length cap], .func (.func k) #[] caps] u.val (RetP B W (ListO B (ints (those m p)) 0)) := by
  have hb := bit_le m hm
  have T0 : Hid (Two (u.val.alloc (.cells #[.int .i64 m, .slice a l.length cap] 24)) u.val.heap.size 24 (.int .i64 m) (.slice a l.length cap)) := Lib.hid (Two.new _ _ _ _)
  have hI : IntsAt (u.val.alloc (.cells #[.int .i64 m, .slice a l.length cap] 24)).heap.size (u.val.alloc (.cells #[.int .i64 m, .slice a l.length cap] 24)) a l := h.to (u.alloc _)
  have HV : Hid (∀ v : Later (u.val.alloc (.cells #[.int .i64 m, .slice a l.length cap] 24)).heap.size (u.val.alloc (.cells #[.int .i64 m, .slice a l.length cap] 24)), ∃ w : Later B W, w.val = v.val) := Lib.hid (fun v => ⟨(u.alloc _).up v, rfl⟩)
  have HK : Hid (TellsR (u.val.alloc (.cells #[.int .i64 m, .slice a l.length cap] 24)).heap.size (u.val.alloc (.cells #[.int .i64 m, .slice a l.length cap] 24)) m (toN l) k caps p) := Lib.hid (fun x => hk ((u.alloc _).up x))
  have q0 : ∀ w : Later (u.val.alloc (.cells #[.int .i64 m, .slice a l.length cap] 24)).heap.size (u.val.alloc (.cells #[.int .i64 m, .slice a l.length cap] 24)), w.val.cell? ⟨u.val.heap.size, 0, none⟩ = some (.int .i64 m) := fun w => (T0.out.keep w.below).c0
  have q1 : ∀ w : Later (u.val.alloc (.cells #[.int .i64 m, .slice a l.length cap] 24)).heap.size (u.val.alloc (.cells #[.int .i64 m, .slice a l.length cap] 24)), w.val.cell? ⟨u.val.heap.size, 1, none⟩ = some (.slice a l.length cap) := fun w => (T0.out.keep w.below).c1
  have p0 : (u.val.alloc (.cells #[.int .i64 m, .slice a l.length cap] 24)).cell? ⟨u.val.heap.size, 0, none⟩ = some (.int .i64 m) := T0.out.c0
  have p1 : (u.val.alloc (.cells #[.int .i64 m, .slice a l.length cap] 24)).cell? ⟨u.val.heap.size, 1, none⟩ = some (.slice a l.length cap) := T0.out.c1
  have hfam : isFam (m : Int) l := Classical.byContradiction fun hk => by have := he.1 (fun h => hk h.1); omega
  have KC : Hid (Calls Try.prog 28 #[.agg #[.int .i64 m, .slice a l.length cap]] (u.val.alloc (.cells #[.int .i64 m, .slice a l.length cap] 24)) (Ret (u.val.alloc (.cells #[.int .i64 m, .slice a l.length cap] 24)).heap.size (u.val.alloc (.cells #[.int .i64 m, .slice a l.length cap] 24)) (.int .i64 0))) := Lib.hid (c_axCheck (Later.self _) m l a cap 0 hI hlen he)
  have KR := Lib.hid (fun v : Later (u.val.alloc (.cells #[.int .i64 m, .slice a l.length cap] 24)).heap.size (u.val.alloc (.cells #[.int .i64 m, .slice a l.length cap] 24)) => c_axRanks0 v m hm l a cap hI hlen hfam)
  have hp1 : ∀ (args : Array Value) (w : World), (callFunc k args).run Try.prog w = .ok (.enter k args) w := hpl
  clear h hk hI he T0 hfam
  go_enter Try.func129, Try.ntmps129
  go_wp2_with (first | (go_at_call 28; ((with_reducible refine (KC.out).mono ?_); rintro e _ ⟨rfl, v1, rfl⟩)) | (go_at_call 133; ((with_reducible refine (KR.out _).mono ?_); rintro e _ ⟨_, rfl, ⟨g, c, rfl, hT⟩, v1, rfl⟩; have HT := Lib.hid hT; clear hT)))
  have hgl := HT.out.lt
  have HK2 : Hid (TellsR v1.val.heap.size v1.val m (toN l) k caps p) := Lib.hid (fun x => HK.out (v1.up x))
  have HVB : Hid (∀ v : Later v1.val.heap.size v1.val, ∃ w : Later B W, w.val = v.val) := Lib.hid (fun v => HV.out (v1.up v))
  have HBV : Hid (B ≤ v1.val.heap.size) := Lib.hid (by obtain ⟨w, hw⟩ := HV.out v1; rw [← hw]; exact w.size)
  clear KC KR q0 q1 p0 p1 HV HK
  generalize toN l = L at *
  obtain ⟨y, hy⟩ : ∃ y : Later v1.val.heap.size v1.val, y.val = v1.val := ⟨Later.self _, rfl⟩
  rw [← hy]
  clear hy
  generalize v1.val = V at *
  go_loopw [8, 19] (fun o i wr => ∃ (s : Nat) (ad : Option Addr) (cp : Nat) (v : Later V.heap.size V), s ≤ bit m ∧ i = .int .i64 s ∧ o = .slice ad (ints (thoseTo p s)).length cp ∧ wr = v.val ∧ Hid (Own V.heap.size v.val ad cp (ints (thoseTo p s)))) (fun _ i _ => bit m - (intOf i).toNat)
  case atStart => exact ⟨0, none, 0, y, by omega, rfl, rfl, rfl, Lib.hid (Own.nil _ _)⟩
  case round =>
    obtain ⟨s, ad, cp, v, hs, rfl, rfl, rfl, HO⟩ := hrel
    have HE := Lib.hid (thoseTo_step p s)
    have HL : Hid ((ints (thoseTo p s)).length ≤ 256) := Lib.hid (by rw [ints_len]; have := thoseTo_len p s; omega)
    rcases nlt s (bit m) with ⟨hlt, d0⟩ | ⟨hlt, d0⟩
    · have d0' : decide ((s : Int) < (bit m : Int)) = true := decide_eq_true (by omega)
      have HK1 := Lib.hid (HK2.out v g c (by have := v.size; omega) (HT.out.keep v.below) (Later.self v.val) s hlt)
      have HK1' : Hid (Calls Try.prog k (#[.slice (some ⟨g, 0, none⟩) (bit m) c, .int .i64 (s : Int)] ++ caps) v.val (Ret v.val.heap.size v.val (.bool (p s)))) := HK1
      generalize thoseTo p s = Lt at *
      clear HK1
      rcases btf (p s) with g1 | g1
      · rw [g1] at HK1'
        have G1 := Lib.hid g1; clear g1
        go_wp2_with (first | (refine (HK1'.out).mono ?_; rintro e _ ⟨rfl, v2, rfl⟩) | (at_builtin; refine wpList_push (B := V.heap.size) (W := V) (w := v2.val) (v.up v2).below (v.up v2).size rfl _ _ rfl (ints Lt) ad cp (s : Int) rfl (HO.out.keep v2.below) rfl (by have := HL.out; omega) ?_; intro u2 ad2 cp2 hown))
        go_roundw
        case rel =>
          refine ⟨s+1, ad2, cp2, u2, by omega, by go_num, ?_, rfl, ?_⟩
          · rw [HE.out, if_pos G1.out, ints_snoc]; simp
          · rw [HE.out, if_pos G1.out, ints_snoc]; exact Lib.hid hown
        case measure => simp [intOf]; omega
      · rw [g1] at HK1'
        have G1 := Lib.hid g1; clear g1
        go_wp2_with (first | (refine (HK1'.out).mono ?_; rintro e _ ⟨rfl, v2, rfl⟩))
        go_roundw
        case rel =>
          have hne : ¬ p s = true := by rw [G1.out]; decide
          refine ⟨s+1, ad, cp, v.up v2, by omega, by go_num, ?_, rfl, ?_⟩
          · rw [HE.out, if_neg hne]
          · rw [HE.out, if_neg hne]; exact Lib.hid (HO.out.keep v2.below)
        case measure => simp [intOf]; omega
    · have hse : Hid (s = bit m) := Lib.hid (by omega)
      have d0' : decide ((s : Int) < (bit m : Int)) = false := decide_eq_false (by omega)
      go_wp2
      go_ret2
      rw [hse.out] at HO ⊢
      exact RetP.of (HVB.out v) ⟨_, _, rfl, HO.out.mono HBV.out⟩
theorem c_axFamily {B : Nat} {W : World} (u : Later B W) (m : Nat) (hm : m ≤ 8) (l : List Int) (a : Option Addr) (cap : Nat) (h : IntsAt B W a l) (hlen : l.length ≤ 4611686018427387904) (he : MatIs (m : Int) l 0) (k : FuncId) (caps : Array Value) (p : Nat → Bool) (hpl : Plain k) (hk : TellsR B W m (toN l) k caps p) :
    Calls Try.prog 129 #[.agg #[.int .i64 m, .slice a l.length cap], .func (.func k) #[] caps] u.val (RetP B W (ListE (ints (those m p)) 0)) := listE_of (c_axFamilyO u m hm l a cap h hlen he k caps p hpl hk)

end Go.Proofs.Ytjpcelldbhdneaa
