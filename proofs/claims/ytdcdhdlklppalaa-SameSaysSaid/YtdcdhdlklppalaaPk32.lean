
/-
  same.renamed, same.order, rotaref.Renamed: names are given.
  rotaref.Renamed.
  The least list of many, in whatever order they come (plain).
-/
import Derived.Test.YtdcdhdlklppalaaPk18
import Derived.Test.YtdcdhdlklppalaaPk13
import Derived.Test.YtdcdhdlklppalaaPk27
import Derived.Test.YtdcdhdlklppalaaPk30
import Derived.Test.YtdcdhdlklppalaaPk31
import Derived.Test.YtdcdhdlklppalaaPk24
import Derived.Test.YtdcdhdlklppalaaPk29
import Derived.Test.YtdcdhdlklppalaaPk12
namespace Go.Proofs.Ytdcdhdlklppalaa
open Go.RowKit
set_option linter.unusedVariables false

/-- the bases by new names, rising -/
def ren (q L : List Nat) : List Int := srt (ints (L.map (img q)))
theorem ren_len (q L : List Nat) : (ren q L).length = L.length := by unfold ren; rw [srt_len, ints_len, List.length_map]

set_option maxRecDepth 100000 in
set_option maxHeartbeats 8000000 in
theorem c_sameRenamed {B : Nat} {W : World} (u : Later B W) (n : Int) (L q : List Nat) (hL : ∀ b, b ∈ L → b < 256) (hL2 : L.length ≤ 1048576) (a ap : Option Addr) (cap cq : Nat) (h : IntsAt B W a (ints L)) (hp : IntsAt B W ap (ints q)) (h8 : ∀ i, i < q.length → q.getD i 0 < 8) (hq : q.length ≤ 8) :
    Calls Try.prog 35 #[.agg #[.int .i64 n, .slice a L.length cap], .slice ap q.length cq] u.val (RetOwn B W (ren q L)) := by
  have hrr : u.val.heap.size < (u.val.alloc (.cells #[.int .i64 n, .slice a L.length cap] 24)).heap.size := by simp
  have HI : Hid (IntsAt (u.val.alloc (.cells #[.int .i64 n, .slice a L.length cap] 24)).heap.size (u.val.alloc (.cells #[.int .i64 n, .slice a L.length cap] 24)) a (ints L)) := Lib.hid (h.to (u.alloc _))
  have HV : Hid (∀ v : Later (u.val.alloc (.cells #[.int .i64 n, .slice a L.length cap] 24)).heap.size (u.val.alloc (.cells #[.int .i64 n, .slice a L.length cap] 24)), ∃ w : Later B W, w.val = v.val) := Lib.hid (fun v => ⟨(u.alloc _).up v, rfl⟩)
  have q1 : ∀ w : Later (u.val.alloc (.cells #[.int .i64 n, .slice a L.length cap] 24)).heap.size (u.val.alloc (.cells #[.int .i64 n, .slice a L.length cap] 24)), w.val.cell? ⟨u.val.heap.size, 1, none⟩ = some (.slice a L.length cap) := fun w => (Two.keep (Two.new u.val 24 (.int .i64 n) (.slice a L.length cap)) w.below).c1
  have KM : Hid (∀ (v : Later (u.val.alloc (.cells #[.int .i64 n, .slice a L.length cap] 24)).heap.size (u.val.alloc (.cells #[.int .i64 n, .slice a L.length cap] 24))) (s : Nat), s < 256 → Calls Try.prog 56 #[.slice ap q.length cq, .int .i64 s] v.val (Ret v.val.heap.size v.val (.int .i64 (img q s)))) := Lib.hid (fun v s hs => c_moved (Later.self v.val) q s hs ap cq ((hp.to (u.alloc _)).to v) h8 hq)
  have H8 : Hid (∀ k, k < L.length → L.getD k 0 < 256) := Lib.hid (fun k hk => hL _ (by simp [hk]))
  have HB : Hid (B ≤ (u.val.alloc (.cells #[.int .i64 n, .slice a L.length cap] 24)).heap.size) := Lib.hid (by have := u.size; omega)
  have HS : Hid (∀ (v : Later (u.val.alloc (.cells #[.int .i64 n, .slice a L.length cap] 24)).heap.size (u.val.alloc (.cells #[.int .i64 n, .slice a L.length cap] 24))) (ad : Option Addr) (cp : Nat), Own (u.val.alloc (.cells #[.int .i64 n, .slice a L.length cap] 24)).heap.size v.val ad cp (ints (L.map (img q))) → Calls Try.prog 31 #[.slice ad (ints (L.map (img q))).length cp] v.val (fun e w' => e = .returned (.tuple #[]) ∧ ∃ v' : Later (u.val.alloc (.cells #[.int .i64 n, .slice a L.length cap] 24)).heap.size (u.val.alloc (.cells #[.int .i64 n, .slice a L.length cap] 24)), w' = v'.val ∧ Own (u.val.alloc (.cells #[.int .i64 n, .slice a L.length cap] 24)).heap.size v'.val ad cp (ren q L) ∧ (∀ k, k < v.val.heap.size → (∀ off, ad ≠ some ⟨k, off, none⟩) → v'.val.heap[k]? = v.val.heap[k]?))) := Lib.hid (fun v ad cp ho => c_sort v _ ad cp ho (by rw [ints_len, List.length_map]; omega))
  have HRl : Hid ((ren q L).length = (ints (L.map (img q))).length) := Lib.hid (by rw [ren_len, ints_len, List.length_map])
  generalize hR : ren q L = R at *
  clear hR h hp h8 hq hL
  go_enter Try.func35, Try.ntmps35
  go_upto_region 1 with fail
  generalize u.val.heap.size = g0 at *
  obtain ⟨y, hy⟩ : ∃ y : Later (u.val.alloc (.cells #[.int .i64 n, .slice a L.length cap] 24)).heap.size (u.val.alloc (.cells #[.int .i64 n, .slice a L.length cap] 24)), y.val = (u.val.alloc (.cells #[.int .i64 n, .slice a L.length cap] 24)) := ⟨Later.self _, rfl⟩
  generalize (u.val.alloc (.cells #[.int .i64 n, .slice a L.length cap] 24)) = M at *
  rw [← hy]
  clear hy u
  have z1 := q1 y
  have HL0 : Hid (∀ k, k < L.length → ((L.take (k + 1)).map (img q)) = (L.take k).map (img q) ++ [img q (L.getD k 0)]) := Lib.hid (fun k hk => take_map_step (img q) L hk)
  go_wp2
  go_loopw [5, 11] (fun t i wr => ∃ (k : Nat) (ad : Option Addr) (cp : Nat) (u : Later M.heap.size M), k ≤ L.length ∧ t = .slice ad (ints ((L.take k).map (img q))).length cp ∧ i = .int .i64 k ∧ wr = u.val ∧ Hid (Own M.heap.size u.val ad cp (ints ((L.take k).map (img q))))) (fun _ i _ => L.length - (intOf i).toNat)
  case atStart => exact ⟨0, none, 0, y, by omega, rfl, rfl, rfl, Own.nil _ _⟩
  case round =>
    clear y z1
    obtain ⟨k, ad, cp, u, hk, rfl, rfl, rfl, HO⟩ := hrel
    by_cases hlt : k < L.length
    · obtain ⟨b, off, rfl, hbB, hcell⟩ := (HI.out.to u).at (k := k) (by rw [ints_len]; exact hlt)
      have c0 : u.val.cell? ⟨b, off + k, none⟩ = some (.int .i64 ((L.getD k 0 : Nat) : Int)) := by rw [← ints_getD]; exact hcell (Later.self u.val) k (by rw [ints_len]; exact hlt)
      have h8 := H8.out k hlt
      have HSt := Lib.hid (HL0.out k hlt)
      have HLn : Hid ((ints ((L.take k).map (img q))).length ≤ 1048576) := Lib.hid (by
        rw [ints_len, List.length_map]
        have := List.length_take_le k L
        omega)
      have K1 := Lib.hid (KM.out u (L.getD k 0) h8)
      clear hcell
      generalize (L.take k).map (img q) = T at *
      generalize L.getD k 0 = x at *
      generalize img q x = z at *
      go_wp2_with (first | (go_at_call 56; (with_reducible refine (K1.out).mono ?_); rintro e _ ⟨rfl, v0, rfl⟩; have HO2 := Lib.hid (HO.out.keep v0.below)) | (at_builtin; refine wpList_push (B := M.heap.size) (W := M) (w := v0.val) (u.up v0).below (u.up v0).size rfl _ _ rfl (ints T) ad cp (z : Int) rfl HO2.out rfl (by have := HLn.out; omega) ?_; intro u2 ad2 cp2 hown; have HO3 := Lib.hid hown; clear hown) | fail)
      go_roundw
      case rel => exact ⟨k+1, ad2, cp2, u2, by omega, by rw [HSt.out, ints_snoc]; simp, by go_num, rfl, by rw [HSt.out, ints_snoc]; exact HO3⟩
      case measure => simp [intOf]; omega
    · have hke : k = L.length := by omega
      subst hke
      rw [List.take_length] at HO ⊢
      have K1 := Lib.hid (HS.out u ad cp HO.out)
      generalize ints (L.map (img q)) = T at *
      go_wp2_with (first | (go_at_call 31; (with_reducible refine (K1.out).mono ?_); rintro e _ ⟨rfl, v', rfl, hO, hf⟩; have HO2 := Lib.hid hO; clear hO hf) | fail)
      go_ret
      obtain ⟨w, hw⟩ := HV.out v'
      refine RetP.of ⟨w, hw⟩ ⟨ad, cp, ?_, HO2.out.mono HB.out⟩
      rw [HRl.out]
      rfl

theorem IntsAt.take {B : Nat} {w : World} {a : Option Addr} {xs : List Int} (h : IntsAt B w a xs) (k : Nat) : IntsAt B w a (xs.take k) := fun hne => by
  obtain ⟨b, off, e, hb, hc⟩ := h (fun e => hne (by rw [e]; simp))
  refine ⟨b, off, e, hb, fun j hj => ?_⟩
  have h1 : j < k ∧ j < xs.length := by simp at hj; omega
  rw [hc j h1.2]
  simp [h1.1]
theorem getD_takeI {xs : List Int} {k j : Nat} (h : j < k) : (xs.take k).getD j 0 = xs.getD j 0 := by simp [h]
theorem mem_takeI {xs : List Int} {k : Nat} (hk : k ≤ xs.length) {x : Int} : x ∈ xs.take k ↔ ∃ i, i < k ∧ xs.getD i 0 = x := by
  rw [List.mem_iff_getElem]
  constructor
  · rintro ⟨i, hi, e⟩
    have h1 : i < k := by simp at hi; omega
    refine ⟨i, h1, ?_⟩
    rw [← getD_takeI h1, ← e]; rw [List.getD_eq_getElem?_getD, List.getElem?_eq_getElem hi]; rfl
  · rintro ⟨i, hi, e⟩
    have h2 : i < (xs.take k).length := by simp; omega
    refine ⟨i, h2, ?_⟩
    rw [← e, ← getD_takeI hi]; rw [List.getD_eq_getElem?_getD, List.getElem?_eq_getElem h2]; rfl
theorem ord_no {m : Nat} (hm : m ≤ 8) {p : List Int} {k : Nat} (hk : k < p.length) (h : p.getD k 0 < 0 ∨ (m : Int) ≤ p.getD k 0 ∨ p.getD k 0 ∈ p.take k) : ¬ isOrd m p := fun hc => by
  obtain ⟨hl, hn⟩ := (isOrd_iff hm).1 hc
  obtain ⟨h1, h2, h3⟩ := hn k (by omega)
  rcases h with h | h | h
  · omega
  · omega
  · obtain ⟨i, hi, e⟩ := (mem_takeI (by omega)).1 h
    exact h3 i hi e

set_option maxRecDepth 100000 in
set_option maxHeartbeats 4000000 in
theorem c_sameOrder {B : Nat} {W : World} (u : Later B W) (m : Nat) (hm : m ≤ 8) (p : List Int) (b : Option Addr) (capb : Nat) (h : IntsAt B W b p) (hl : p.length ≤ 4611686018427387904) (hcap : p.length ≤ capb) :
    Calls Try.prog 34 #[.slice b p.length capb, .int .i64 m] u.val (Ret B W (.bool (decide (isOrd m p)))) := by
  have KC : Hid (∀ (v : Later B W) (k : Nat) (x : Int), k ≤ p.length → Calls Try.prog 23 #[.slice b k capb, .int .i64 x] v.val (Ret B W (.bool (decide (x ∈ p.take k))))) := Lib.hid (fun v k x hk => by
    have := c_contains v (p.take k) x b capb (h.take k) (by simp; omega)
    rwa [List.length_take_of_le hk] at this)
  have HBad := Lib.hid (fun k => @ord_no m hm p k)
  have HEnd : Hid (p.length = m → newTo m p p.length → decide (isOrd m p) = true) := Lib.hid (fun h1 h2 => decide_eq_true ((isOrd_iff hm).2 ⟨h1, h1 ▸ h2⟩))
  have HLn : Hid (p.length ≠ m → decide (isOrd m p) = false) := Lib.hid (fun h => decide_eq_false (fun c => h c.1))
  have HNo : Hid (¬ isOrd m p → decide (isOrd m p) = false) := Lib.hid (fun h => decide_eq_false h)
  have HP := Lib.hid h
  clear h
  generalize decide (isOrd m p) = r at *
  by_cases hpm : p.length = m
  case neg =>
    have d1 : ((p.length : Int) != (m : Int)) = true := by rw [bne_iff_ne]; omega
    have hr := HLn.out hpm
    subst hr
    clear HLn HEnd HBad HNo KC HP hpm
    generalize p.length = q at *
    go_enter Try.func34, Try.ntmps34
    go_wp2
    go_ret
    exact Ret.mk u rfl
  have d1 : ((p.length : Int) != (m : Int)) = false := by rw [bne_eq_false_iff_eq]; omega
  have HPM := Lib.hid hpm
  clear HLn hpm
  go_enter Try.func34, Try.ntmps34
  go_wp2
  go_loopw [13] (fun i wr => ∃ (k : Nat) (v : Later B W), k ≤ p.length ∧ i = .int .i64 k ∧ wr = v.val ∧ Hid (newTo m p k)) (fun i _ => p.length - (intOf i).toNat)
  case atStart => exact ⟨0, u, by omega, rfl, rfl, Lib.hid (fun j hj => by omega)⟩
  case round =>
    clear u
    obtain ⟨k, v, hk, rfl, rfl, hf⟩ := hrel
    by_cases hlt : k < p.length
    · obtain ⟨bb, off, rfl, hbB, hcell⟩ := HP.out.at (k := k) hlt
      have c0 : v.val.cell? ⟨bb, off + k, none⟩ = some (.int .i64 (p.getD k 0)) := hcell v k hlt
      have HX : Hid (p.getD k 0 < 0 ∨ (m : Int) ≤ p.getD k 0 ∨ p.getD k 0 ∈ p.take k → r = false) := Lib.hid (fun h => HNo.out (HBad.out k hlt h))
      have HS : Hid (0 ≤ p.getD k 0 → p.getD k 0 < m → p.getD k 0 ∉ p.take k → newTo m p (k + 1)) := Lib.hid (fun h1 h2 h3 j hj => by
        by_cases c : j = k
        · subst c
          exact ⟨h1, h2, fun i hi e => h3 ((mem_takeI (by omega)).2 ⟨i, hi, e⟩)⟩
        · exact hf.out j (by omega))
      have K1 := Lib.hid (KC.out v k (p.getD k 0) (by omega))
      have hkc : k ≤ capb := by omega
      clear hcell hf KC HBad HNo HEnd
      generalize p.getD k 0 = x at *
      rcases ilt x 0 with ⟨g1, dl⟩ | ⟨g1, dl⟩
      · have hr := HX.out (.inl g1)
        subst hr
        clear HX HS g1 K1
        go_wp2
        go_ret
        exact Ret.mk v rfl
      rcases ile (m : Int) x with ⟨g2, dm⟩ | ⟨g2, dm⟩
      · have hr := HX.out (.inr (.inl g2))
        subst hr
        clear HX HS g1 K1
        go_wp2
        go_ret
        exact Ret.mk v rfl
      by_cases hmem : x ∈ p.take k
      · have hr := HX.out (.inr (.inr hmem))
        subst hr
        have K2 : Hid (Calls Try.prog 23 #[.slice (some ⟨bb, off, none⟩) k capb, .int .i64 x] v.val (Ret B W (.bool true))) := Lib.hid (by have := K1.out; rwa [decide_eq_true hmem] at this)
        clear HX HS g1 K1 hmem
        go_wp2_with (first | (go_at_call 23; (with_reducible refine (K2.out).mono ?_); rintro e _ ⟨rfl, v1, rfl⟩))
        go_ret
        exact Ret.mk v1 rfl
      · have K2 : Hid (Calls Try.prog 23 #[.slice (some ⟨bb, off, none⟩) k capb, .int .i64 x] v.val (Ret B W (.bool false))) := Lib.hid (by have := K1.out; rwa [decide_eq_false hmem] at this)
        have HN := Lib.hid (HS.out (by omega) (by omega) hmem)
        clear HX HS g1 K1 hmem
        go_wp2_with (first | (go_at_call 23; (with_reducible refine (K2.out).mono ?_); rintro e _ ⟨rfl, v1, rfl⟩))
        go_roundw
        case rel => exact ⟨k+1, v1, by omega, by go_num, rfl, HN⟩
        case measure => simp [intOf]; omega
    · have hke : k = p.length := by omega
      subst hke
      have hr := HEnd.out HPM.out hf.out
      subst hr
      clear hf HEnd HBad KC HP HNo
      go_wp2
      go_ret
      exact Ret.mk v rfl
end Go.Proofs.Ytdcdhdlklppalaa

namespace Go.Proofs.Ytdcdhdlklppalaa
open Go.RowKit
set_option linter.unusedVariables false

set_option maxRecDepth 100000 in
set_option maxHeartbeats 8000000 in
theorem c_refRenamed {B : Nat} {W : World} (u : Later B W) (n : Int) (L q : List Nat) (hL : ∀ b, b ∈ L → b < bit q.length) (hL2 : L.length ≤ 1048576) (a ap : Option Addr) (cap cq : Nat) (h : IntsAt B W a (ints L)) (hp : IntsAt B W ap (ints q)) (h8 : ∀ i, i < q.length → q.getD i 0 < 8) (hq : q.length ≤ 8) :
    Calls Try.prog 9 #[.agg #[.int .i64 n, .slice a L.length cap], .slice ap q.length cq] u.val (RetP B W (MatO B n (ren q L))) := by
  have hB := u.size
  have e1 : (u.val.alloc (.cells #[.int .i64 n, .slice a L.length cap] 24)).heap.size = u.val.heap.size + 1 := by simp
  have e2 : ((u.val.alloc (.cells #[.int .i64 n, .slice a L.length cap] 24)).alloc (.cells #[.int .i64 0, .slice none 0 0] 24)).heap.size = u.val.heap.size + 2 := by simp
  have HY2 := Lib.hid e2
  have XA : RowL ((u.val.alloc (.cells #[.int .i64 n, .slice a L.length cap] 24)).alloc (.cells #[.int .i64 0, .slice none 0 0] 24)) u.val.heap.size 24 [.int .i64 n, .slice a L.length cap] := (RowL.new _ _ _).keep ((Below.refl _ _).alloc (Nat.le_refl _) _)
  have XB0 : RowL ((u.val.alloc (.cells #[.int .i64 n, .slice a L.length cap] 24)).alloc (.cells #[.int .i64 0, .slice none 0 0] 24)) (u.val.heap.size + 1) 24 [.int .i64 0, .slice none 0 0] := by
    have h := RowL.new (u.val.alloc (.cells #[.int .i64 n, .slice a L.length cap] 24)) 24 [.int .i64 0, .slice none 0 0]
    rwa [e1] at h
  have XB := Lib.hid XB0
  have HZ : Hid (RowL (((u.val.alloc (.cells #[.int .i64 n, .slice a L.length cap] 24)).alloc (.cells #[.int .i64 0, .slice none 0 0] 24)).alloc (.cells #[.int .i64 n, .slice none 0 0] 24)) (u.val.heap.size + 2) 24 [.int .i64 n, .slice none 0 0]) := Lib.hid (by
    have h := RowL.new ((u.val.alloc (.cells #[.int .i64 n, .slice a L.length cap] 24)).alloc (.cells #[.int .i64 0, .slice none 0 0] 24)) 24 [.int .i64 n, .slice none 0 0]
    rwa [e2] at h)
  have HZs : Hid (u.val.heap.size + 3 ≤ (((u.val.alloc (.cells #[.int .i64 n, .slice a L.length cap] 24)).alloc (.cells #[.int .i64 0, .slice none 0 0] 24)).alloc (.cells #[.int .i64 n, .slice none 0 0] 24)).heap.size) := Lib.hid (by simp)
  obtain ⟨x, hx⟩ : ∃ x : Later ((u.val.alloc (.cells #[.int .i64 n, .slice a L.length cap] 24)).alloc (.cells #[.int .i64 0, .slice none 0 0] 24)).heap.size ((u.val.alloc (.cells #[.int .i64 n, .slice a L.length cap] 24)).alloc (.cells #[.int .i64 0, .slice none 0 0] 24)), x.val = (((u.val.alloc (.cells #[.int .i64 n, .slice a L.length cap] 24)).alloc (.cells #[.int .i64 0, .slice none 0 0] 24)).alloc (.cells #[.int .i64 n, .slice none 0 0] 24)) := ⟨(Later.self ((u.val.alloc (.cells #[.int .i64 n, .slice a L.length cap] 24)).alloc (.cells #[.int .i64 0, .slice none 0 0] 24))).alloc _, rfl⟩
  rw [← hx] at HZ HZs
  have HX := Lib.hid hx
  clear hx
  have HV : Hid (∀ v : Later ((u.val.alloc (.cells #[.int .i64 n, .slice a L.length cap] 24)).alloc (.cells #[.int .i64 0, .slice none 0 0] 24)).heap.size ((u.val.alloc (.cells #[.int .i64 n, .slice a L.length cap] 24)).alloc (.cells #[.int .i64 0, .slice none 0 0] 24)), ∃ w : Later B W, w.val = v.val) := Lib.hid (fun v => ⟨((u.alloc _).alloc _).up v, rfl⟩)
  have q1 : ∀ w : Later ((u.val.alloc (.cells #[.int .i64 n, .slice a L.length cap] 24)).alloc (.cells #[.int .i64 0, .slice none 0 0] 24)).heap.size ((u.val.alloc (.cells #[.int .i64 n, .slice a L.length cap] 24)).alloc (.cells #[.int .i64 0, .slice none 0 0] 24)), w.val.cell? ⟨u.val.heap.size, 1, none⟩ = some (.slice a L.length cap) := fun w => (XA.keep w.below).cell rfl
  have p0 : ((u.val.alloc (.cells #[.int .i64 n, .slice a L.length cap] 24)).alloc (.cells #[.int .i64 0, .slice none 0 0] 24)).cell? ⟨u.val.heap.size, 0, none⟩ = some (.int .i64 n) := XA.cell rfl
  have HI : Hid (IntsAt ((u.val.alloc (.cells #[.int .i64 n, .slice a L.length cap] 24)).alloc (.cells #[.int .i64 0, .slice none 0 0] 24)).heap.size ((u.val.alloc (.cells #[.int .i64 n, .slice a L.length cap] 24)).alloc (.cells #[.int .i64 0, .slice none 0 0] 24)) a (ints L)) := Lib.hid (h.to ((u.alloc _).alloc _))
  have KM : Hid (∀ (v : Later ((u.val.alloc (.cells #[.int .i64 n, .slice a L.length cap] 24)).alloc (.cells #[.int .i64 0, .slice none 0 0] 24)).heap.size ((u.val.alloc (.cells #[.int .i64 n, .slice a L.length cap] 24)).alloc (.cells #[.int .i64 0, .slice none 0 0] 24))) (s : Nat), s < bit q.length → Calls Try.prog 30 #[.slice ap q.length cq, .int .i64 s] v.val (Ret v.val.heap.size v.val (.int .i64 (img q s)))) := Lib.hid (fun v s hs => c_image (Later.self v.val) q s hs ap cq ((hp.to ((u.alloc _).alloc _)).to v) h8 hq)
  have H8 : Hid (∀ k, k < L.length → L.getD k 0 < bit q.length) := Lib.hid (fun k hk => hL _ (by simp [hk]))
  have HS : Hid (∀ (v : Later ((u.val.alloc (.cells #[.int .i64 n, .slice a L.length cap] 24)).alloc (.cells #[.int .i64 0, .slice none 0 0] 24)).heap.size ((u.val.alloc (.cells #[.int .i64 n, .slice a L.length cap] 24)).alloc (.cells #[.int .i64 0, .slice none 0 0] 24))) (G : Nat), Hid (G = ((u.val.alloc (.cells #[.int .i64 n, .slice a L.length cap] 24)).alloc (.cells #[.int .i64 0, .slice none 0 0] 24)).heap.size + 1 ∧ G ≤ v.val.heap.size) → ∀ (ad : Option Addr) (cp : Nat), Own G v.val ad cp (ints (L.map (img q))) → Calls Try.prog 31 #[.slice ad (ints (L.map (img q))).length cp] v.val (fun e w' => e = .returned (.tuple #[]) ∧ ∃ v' : Later G v.val, w' = v'.val ∧ Own G v'.val ad cp (ren q L) ∧ (∀ k, k < v.val.heap.size → (∀ off, ad ≠ some ⟨k, off, none⟩) → v'.val.heap[k]? = v.val.heap[k]?))) := Lib.hid (fun v G hG ad cp ho => c_sort ⟨v.val, Below.refl _ _, hG.out.2⟩ _ ad cp ho (by rw [ints_len, List.length_map]; omega))
  have HRl : Hid ((ren q L).length = (ints (L.map (img q))).length) := Lib.hid (by rw [ren_len, ints_len, List.length_map])
  have HL0 : Hid (∀ k, k < L.length → ((L.take (k + 1)).map (img q)) = (L.take k).map (img q) ++ [img q (L.getD k 0)]) := Lib.hid (fun k hk => take_map_step (img q) L hk)
  generalize hR : ren q L = R at *
  clear hR h hp h8 hq hL e1 e2 XA XB0
  go_enter Try.func9, Try.ntmps9
  go_upto_region 2 with fail
  rw [← HX.out]
  clear HX
  generalize hg0 : u.val.heap.size = g0 at *
  clear hg0
  generalize ((u.val.alloc (.cells #[.int .i64 n, .slice a L.length cap] 24)).alloc (.cells #[.int .i64 0, .slice none 0 0] 24)) = Y at *
  clear u
  clear p0
  go_wp2
  go_loopw [6] (fun i wr => ∃ (k : Nat) (v : Later Y.heap.size Y) (ab : Option Addr) (cb : Nat), k ≤ L.length ∧ i = .int .i64 k ∧ wr = v.val ∧ Hid (g0 + 3 ≤ v.val.heap.size) ∧ Hid (RowL v.val (g0 + 2) 24 [.int .i64 n, .slice ab (ints ((L.take k).map (img q))).length cb]) ∧ Hid (Own (g0 + 3) v.val ab cb (ints ((L.take k).map (img q))))) (fun i _ => L.length - (intOf i).toNat)
  case atStart => exact ⟨0, x, none, 0, by omega, rfl, rfl, HZs, HZ, Lib.hid (Own.nil _ _)⟩
  case round =>
    clear x HZ HZs
    obtain ⟨k, v, ab, cb, hk, rfl, rfl, Hvs, HM, HO⟩ := hrel
    have q1v := q1 v
    by_cases hlt : k < L.length
    · obtain ⟨b, off, rfl, hbB, hcell⟩ := (HI.out.to v).at (k := k) (by rw [ints_len]; exact hlt)
      have c0 : ∀ w : Later v.val.heap.size v.val, w.val.cell? ⟨b, off + k, none⟩ = some (.int .i64 ((L.getD k 0 : Nat) : Int)) := fun w => by rw [← ints_getD]; exact hcell w k (by rw [ints_len]; exact hlt)
      have KM1 := Lib.hid (KM.out v.drew (L.getD k 0) (H8.out k hlt))
      have HSt := Lib.hid (HL0.out k hlt)
      have hTl : (ints ((L.take k).map (img q))).length + 1 ≤ 1099511627776 := by
        rw [ints_len, List.length_map]
        have := List.length_take_le k L
        omega
      have q1w : ∀ w : Later v.val.heap.size v.val, w.val.cell? ⟨g0, 1, none⟩ = some (.slice (some ⟨b, off, none⟩) L.length cap) := fun w => q1 (v.up w)
      have HMw : Hid (∀ w : Later v.val.heap.size v.val, RowL w.val (g0 + 2) 24 [.int .i64 n, .slice ab (ints ((L.take k).map (img q))).length cb]) := Lib.hid (fun w => HM.out.keep w.below)
      have HOw : Hid (∀ w : Later v.val.heap.size v.val, Own (g0 + 3) w.val ab cb (ints ((L.take k).map (img q)))) := Lib.hid (fun w => HO.out.keep w.below)
      have HVw : Hid (∀ (y2 : Later v.val.heap.size v.val) (w : Later (g0 + 3) y2.val), ∃ w' : Later Y.heap.size Y, w'.val = w.val) := Lib.hid (fun y2 w => ⟨(v.up y2).to w.val (w.below.mono (by have := HY2.out; omega)), rfl⟩)
      clear hcell KM
      generalize (L.take k).map (img q) = T at *
      generalize L.getD k 0 = s at *
      generalize img q s = z at *
      have b0 : ∀ w : Later v.val.heap.size v.val, w.val.cell? ⟨g0 + 2, 1, none⟩ = some (.slice ab (ints T).length cb) := fun w => (HMw.out w).cell rfl
      have HRu : Hid (∀ (y2 : Later v.val.heap.size v.val) (w : Later (g0 + 3) y2.val), RowL w.val (g0 + 2) 24 [.int .i64 n, .slice ab (ints T).length cb]) := Lib.hid (fun y2 w => by
        show w.val.heap[g0 + 2]? = _
        rw [w.below.block (g0 + 2) (by omega)]; exact HMw.out y2)
      have b1 : ∀ (y2 : Later v.val.heap.size v.val) (w : Later (g0 + 3) y2.val), w.val.cell? ⟨g0 + 2, 1, none⟩ = some (.slice ab (ints T).length cb) := fun y2 w => (HRu.out y2 w).cell rfl
      have b2 : ∀ (y2 : Later v.val.heap.size v.val) (w : Later (g0 + 3) y2.val), w.val.frozen? ⟨g0 + 2, 1, none⟩ = false := fun y2 w => (HRu.out y2 w).fz 1
      have KMd : Hid (Calls Try.prog 30 #[.slice ap q.length cq, .int .i64 s] v.val.drew (Ret v.val.heap.size v.val (.int .i64 z))) := Lib.hid (KM1.out.mono fun _ _ ⟨h1, w, h2⟩ => ⟨h1, (Later.self v.val).drew.up w, h2⟩)
      have sg : v.val.drew.cell? ⟨g0 + 2, 1, none⟩ = some (.slice ab (ints T).length cb) := b0 (Later.self v.val).drew
      have sg2 : ∀ (w : Later v.val.heap.size v.val) (o : Obj), (w.val.alloc o).cell? ⟨g0 + 2, 1, none⟩ = some (.slice ab (ints T).length cb) := fun w o => b0 (w.alloc o)
      have s1 : v.val.drew.cell? ⟨g0, 1, none⟩ = some (.slice (some ⟨b, off, none⟩) L.length cap) := q1w (Later.self v.val).drew
      have s2 : v.val.drew.cell? ⟨b, off + k, none⟩ = some (.int .i64 (s : Int)) := c0 (Later.self v.val).drew
      clear KM1 HL0 H8 HI
      go_upto_region 5 with fail
      go_region_law (first | ((refine step_push (B := g0 + 3) (W := y2.val) (w := y2.val) (Below.refl _ _) (by have := Hvs.out; have := y2.size; omega) (by rfl) _ _ (by rfl) (ints T) ab cb (z : Int) (by rfl) (HOw.out y2) (by rfl) hTl ?_; intro u2 ad3 cp3 hown)) | (go_simp; go_at_call 30; (with_reducible refine (KMd.out).mono ?_); rintro e _ ⟨rfl, y2, rfl⟩))
      all_goals
        have HR3 : Hid (RowL u2.val (g0 + 2) 24 [.int .i64 n, .slice ab (ints T).length cb]) := Lib.hid (HRu.out y2 u2)
        have HVu : Hid (∃ w : Later Y.heap.size Y, w.val = u2.val) := Lib.hid (HVw.out y2 u2)
        have Hus : Hid (g0 + 3 ≤ u2.val.heap.size) := Lib.hid u2.size
        go_wp2
        go_roundw
        case rel =>
          obtain ⟨w, hw⟩ := later_set HVu.out (g := g0 + 2) (i := 1) (by have := HY2.out; omega) (.slice ad3 (ints T ++ [(z : Int)]).length cp3)
          refine ⟨k+1, w, ad3, cp3, by omega, by go_num, ?_, ?_, ?_, ?_⟩
          · rw [hw]; simp
          · rw [hw]; exact Lib.hid (by simpa using Hus.out)
          · rw [HSt.out, ints_snoc, hw]; exact Lib.hid (HR3.out.set 1 _)
          · rw [HSt.out, ints_snoc, hw]; exact Lib.hid (hown.set (by omega) _)
        case measure => simp [intOf]; omega
    · have hke : k = L.length := by omega
      subst hke
      rw [List.take_length] at HM HO
      have hG : Hid (g0 + 3 = Y.heap.size + 1 ∧ g0 + 3 ≤ v.val.heap.size) := Lib.hid ⟨by have := HY2.out; omega, Hvs.out⟩
      have K1 := Lib.hid (HS.out v (g0 + 3) hG ab cb HO.out)
      have b1 : v.val.cell? ⟨g0 + 2, 1, none⟩ = some (.slice ab (ints (L.map (img q))).length cb) := HM.out.cell rfl
      have HF : Hid (∀ off, ab ≠ some ⟨g0 + 2, off, none⟩) := Lib.hid (fun off e => by
        rcases HO.out.open with ⟨e1, _, _⟩ | ⟨g, cur, e1, h1, h2, _⟩
        · rw [e1] at e; cases e
        · rw [e1] at e
          cases e
          omega)
      have HVf : Hid (∀ w : Later (g0 + 3) v.val, ∃ w' : Later Y.heap.size Y, w'.val = w.val) := Lib.hid (fun w => ⟨v.to w.val (w.below.mono (by have := HY2.out; omega)), rfl⟩)
      have HB8 : Hid (B ≤ g0 + 3) := Lib.hid (by omega)
      clear HL0 H8 HI KM HO HS q1
      generalize ints (L.map (img q)) = T at *
      go_wp2_with fail
      refine K1.out.mono ?_
      rintro e _ ⟨rfl, v', rfl, hO, hf⟩
      have HO2 := Lib.hid hO
      have HM2 : Hid (RowL v'.val (g0 + 2) 24 [.int .i64 n, .slice ab T.length cb]) := Lib.hid (by
        show v'.val.heap[g0 + 2]? = _
        rw [hf (g0 + 2) HM.out.lt HF.out]; exact HM.out)
      have XB2 : Hid (RowL v'.val (g0 + 1) 24 [.int .i64 0, .slice none 0 0]) := Lib.hid (by
        obtain ⟨w9, hw9⟩ := HVf.out v'
        rw [← hw9]; exact XB.out.keep w9.below)
      have m0 : v'.val.cell? ⟨g0 + 2, 0, none⟩ = some (.int .i64 n) := HM2.out.cell rfl
      have m1 : v'.val.cell? ⟨g0 + 2, 1, none⟩ = some (.slice ab T.length cb) := HM2.out.cell rfl
      have d0 : v'.val.cell? ⟨g0 + 1, 0, none⟩ = some (.int .i64 0) := XB2.out.cell rfl
      have d1 : v'.val.frozen? ⟨g0 + 1, 0, none⟩ = false := XB2.out.fz 0
      have d2 : ∀ x : Value, (v'.val.setCell ⟨g0 + 1, 0, none⟩ x).cell? ⟨g0 + 1, 1, none⟩ = some (.slice none 0 0) := fun x => (XB2.out.set 0 x).cell rfl
      have d3 : ∀ x : Value, (v'.val.setCell ⟨g0 + 1, 0, none⟩ x).frozen? ⟨g0 + 1, 1, none⟩ = false := fun x => (XB2.out.set 0 x).fz 1
      clear hO hf K1 HM
      go_wp2
      refine bodyPost_ret (results_cell_row rfl _ _ (g0 + 1) 24 #[.int .i64 n, .slice ab T.length cb] (0, 0) _ rfl ((XB2.out.set 0 _).set 1 _) Try.underlying24 rfl (by kernel_rfl)) rfl ?_
      obtain ⟨w9, hw9⟩ := HVf.out v'
      obtain ⟨w8, hw8⟩ := HV.out w9
      obtain ⟨z1, hz1⟩ := later_set ⟨w8, by rw [hw8, hw9]⟩ (g := g0 + 1) (i := 0) (by omega) (.int .i64 n)
      obtain ⟨z2, hz2⟩ := later_set ⟨z1, hz1⟩ (g := g0 + 1) (i := 1) (by omega) (.slice ab T.length cb)
      refine RetP.of ⟨z2, hz2⟩ ⟨ab, cb, by rw [HRl.out], ((HO2.out.set (by omega) _).set (by omega) _).mono HB8.out⟩
end Go.Proofs.Ytdcdhdlklppalaa

namespace Go.Proofs.Ytdcdhdlklppalaa
open Go.RowKit
set_option linter.unusedVariables false

theorem lexc_neg : ∀ x y : List Int, lexc y x = - lexc x y
  | [], [] => rfl
  | [], b :: y => rfl
  | a :: x, [] => rfl
  | a :: x, b :: y => by
    have ih := lexc_neg x y
    show (if b < a then (-1 : Int) else if a < b then 1 else lexc y x) = - (if a < b then (-1 : Int) else if b < a then 1 else lexc x y)
    by_cases h1 : a < b
    · rw [if_neg (by omega), if_pos h1, if_pos h1]; rfl
    · by_cases h2 : b < a
      · rw [if_pos h2, if_neg h1, if_pos h2]
      · rw [if_neg h2, if_neg h1, if_neg h1, if_neg h2]; exact ih
theorem lexc_cases : ∀ x y : List Int, lexc x y = -1 ∨ lexc x y = 0 ∨ lexc x y = 1
  | [], [] => .inr (.inl rfl)
  | [], b :: y => .inl rfl
  | a :: x, [] => .inr (.inr rfl)
  | a :: x, b :: y => by
    have ih := lexc_cases x y
    show (if a < b then (-1 : Int) else if b < a then 1 else lexc x y) = -1 ∨ (if a < b then (-1 : Int) else if b < a then 1 else lexc x y) = 0 ∨ (if a < b then (-1 : Int) else if b < a then 1 else lexc x y) = 1
    by_cases h1 : a < b
    · rw [if_pos h1]; exact .inl rfl
    · rw [if_neg h1]
      by_cases h2 : b < a
      · rw [if_pos h2]; exact .inr (.inr rfl)
      · rw [if_neg h2]; exact ih
theorem lexc_eq : ∀ x y : List Int, lexc x y = 0 → x = y
  | [], [] => fun _ => rfl
  | [], b :: y => fun h => by cases h
  | a :: x, [] => fun h => by cases h
  | a :: x, b :: y => fun h => by
    have ih := lexc_eq x y
    change (if a < b then (-1 : Int) else if b < a then 1 else lexc x y) = 0 at h
    by_cases h1 : a < b
    · rw [if_pos h1] at h; cases h
    · rw [if_neg h1] at h
      by_cases h2 : b < a
      · rw [if_pos h2] at h; cases h
      · rw [if_neg h2] at h
        have : a = b := by omega
        rw [this, ih h]
theorem lexc_tr : ∀ x y z : List Int, 0 ≤ lexc x y → 0 ≤ lexc y z → 0 ≤ lexc x z
  | [], _, [] => fun _ _ => Int.le_refl 0
  | a :: x, _, [] => fun _ _ => by show (0 : Int) ≤ 1; omega
  | _, [], c :: z => fun _ h => by
    have : (0 : Int) ≤ -1 := h
    omega
  | [], b :: y, c :: z => fun h _ => by
    have : (0 : Int) ≤ -1 := h
    omega
  | a :: x, b :: y, c :: z => fun h g => by
    have ih := lexc_tr x y z
    change 0 ≤ (if a < b then (-1 : Int) else if b < a then 1 else lexc x y) at h
    change 0 ≤ (if b < c then (-1 : Int) else if c < b then 1 else lexc y z) at g
    show 0 ≤ (if a < c then (-1 : Int) else if c < a then 1 else lexc x z)
    by_cases h1 : a < b
    · rw [if_pos h1] at h; omega
    rw [if_neg h1] at h
    by_cases g1 : b < c
    · rw [if_pos g1] at g; omega
    rw [if_neg g1] at g
    rw [if_neg (by omega)]
    by_cases h3 : c < a
    · rw [if_pos h3]; omega
    · rw [if_neg h3]
      rw [if_neg (by omega)] at h g
      exact ih h g
theorem lexc_anti {x y : List Int} (h : 0 ≤ lexc x y) (g : 0 ≤ lexc y x) : x = y := by
  rw [lexc_neg] at g
  exact lexc_eq x y (by omega)

/-- b1 is the least of b0 and of what f makes of those in S -/
structure Bst (f : List Nat → List Int) (S : List Nat → Prop) (b0 b1 : List Int) : Prop where
  src : b1 = b0 ∨ ∃ q, S q ∧ b1 = f q
  le0 : 0 ≤ lexc b0 b1
  le : ∀ q, S q → 0 ≤ lexc (f q) b1
theorem Bst.refl (f : List Nat → List Int) {S : List Nat → Prop} (h : ∀ q, ¬ S q) (b : List Int) : Bst f S b b := ⟨.inl rfl, by rw [lexc_self]; exact Int.le_refl 0, fun q hq => absurd hq (h q)⟩
theorem Bst.congr {f : List Nat → List Int} {S S' : List Nat → Prop} {b0 b1 : List Int} (h : Bst f S b0 b1) (e : ∀ q, S q ↔ S' q) : Bst f S' b0 b1 := ⟨h.src.imp id (fun ⟨q, h1, h2⟩ => ⟨q, (e q).1 h1, h2⟩), h.le0, fun q hq => h.le q ((e q).2 hq)⟩
theorem Bst.trans {f : List Nat → List Int} {S1 S2 : List Nat → Prop} {b0 b1 b2 : List Int} (h : Bst f S1 b0 b1) (g : Bst f S2 b1 b2) : Bst f (fun q => S1 q ∨ S2 q) b0 b2 where
  src := by
    rcases g.src with e | ⟨q, h1, h2⟩
    · rw [e]; exact h.src.imp id (fun ⟨q, h1, h2⟩ => ⟨q, .inl h1, h2⟩)
    · exact .inr ⟨q, .inr h1, h2⟩
  le0 := lexc_tr _ _ _ h.le0 g.le0
  le := fun q hq => hq.elim (fun h1 => lexc_tr _ _ _ (h.le q h1) g.le0) (fun h1 => g.le q h1)
theorem Bst.one {f : List Nat → List Int} {S : List Nat → Prop} {p : List Nat} (hS : ∀ q, S q ↔ q = p) (b : List Int) : Bst f S b (if lexc (f p) b < 0 then f p else b) := by
  by_cases h : lexc (f p) b < 0
  · rw [if_pos h]
    refine ⟨.inr ⟨p, (hS p).2 rfl, rfl⟩, by rw [lexc_neg]; omega, fun q hq => ?_⟩
    rw [(hS q).1 hq, lexc_self]; exact Int.le_refl 0
  · rw [if_neg h]
    refine ⟨.inl rfl, by rw [lexc_self]; exact Int.le_refl 0, fun q hq => ?_⟩
    rw [(hS q).1 hq]; omega
theorem Bst.uniq {f : List Nat → List Int} {S : List Nat → Prop} {b0 b1 b2 : List Int} (h : Bst f S b0 b1) (g : Bst f S b0 b2) : b1 = b2 := by
  refine lexc_anti ?_ ?_
  · rcases h.src with e | ⟨q, h1, h2⟩
    · rw [e]; exact g.le0
    · rw [h2]; exact g.le q h1
  · rcases g.src with e | ⟨q, h1, h2⟩
    · rw [e]; exact h.le0
    · rw [h2]; exact h.le q h1

/-- orders that begin so -/
def Ext (n : Nat) (pre : List Nat) (q : List Nat) : Prop := pre <+: q ∧ Pm n q
theorem ext_leaf {n : Nat} {pre : List Nat} (h : Pm n pre) (q : List Nat) : Ext n pre q ↔ q = pre := by
  constructor
  · rintro ⟨⟨t, rfl⟩, hq⟩
    have h1 := hq.len
    have h2 := h.len
    rw [List.length_append] at h1
    have : t = [] := List.length_eq_zero_iff.1 (by omega)
    rw [this, List.append_nil]
  · rintro rfl; exact ⟨List.prefix_refl _, h⟩
theorem ext_next {n K : Nat} {pre : List Nat} (hl : pre.length < n) (q : List Nat) : (Ext n pre q ∧ q.getD pre.length 0 = K) ↔ Ext n (pre ++ [K]) q := by
  constructor
  · rintro ⟨⟨⟨t, rfl⟩, hq⟩, hk⟩
    have h1 := hq.len
    rw [List.length_append] at h1
    cases t with
    | nil => simp at h1; omega
    | cons x t =>
      have : x = K := by
        rw [← hk]
        simp
      subst this
      exact ⟨⟨t, by simp⟩, hq⟩
  · rintro ⟨h, hq⟩
    exact ⟨⟨List.IsPrefix.trans (List.prefix_append _ _) h, hq⟩, (pre_at h).1⟩
theorem ext_not {n K : Nat} {pre : List Nat} (hl : pre.length < n) (hc : pre.contains K = true) (q : List Nat) (h : Ext n pre q) : q.getD pre.length 0 ≠ K := fun e => by
  obtain ⟨⟨t, rfl⟩, hq⟩ := h
  rw [List.contains_iff_mem, mem_getDN] at hc
  obtain ⟨j, hj, ej⟩ := hc
  have h1 : (pre ++ t).getD j 0 = K := by
    rw [← ej]
    simp only [List.getD_eq_getElem?_getD]
    rw [List.getElem?_append_left hj]
  have := hq.inj j pre.length (by omega) hl (by rw [h1, e])
  omega
theorem ext_lt {n : Nat} {pre q : List Nat} (hl : pre.length < n) (h : Ext n pre q) : q.getD pre.length 0 < n := h.2.lt _ hl
theorem ext_nil {n : Nat} (q : List Nat) : Ext n [] q ↔ Pm n q := ⟨fun h => h.2, fun h => ⟨List.nil_prefix, h⟩⟩
/-- from the least up -/
theorem bst_up {f : List Nat → List Int} {n K : Nat} {pre : List Nat} (hl : pre.length < n) {b0 b1 b2 : List Int} (h : Bst f (fun q => Ext n pre q ∧ q.getD pre.length 0 < K) b0 b1) (g : Bst f (Ext n (pre ++ [K])) b1 b2) : Bst f (fun q => Ext n pre q ∧ q.getD pre.length 0 < K + 1) b0 b2 :=
  (h.trans g).congr (fun q => by
    rw [← ext_next hl]
    constructor
    · rintro (⟨h1, h2⟩ | ⟨h1, h2⟩)
      · exact ⟨h1, by omega⟩
      · exact ⟨h1, by omega⟩
    · rintro ⟨h1, h2⟩
      by_cases e : q.getD pre.length 0 = K
      · exact .inr ⟨h1, e⟩
      · exact .inl ⟨h1, by omega⟩)
theorem bst_up_no {f : List Nat → List Int} {n K : Nat} {pre : List Nat} (hl : pre.length < n) {b0 b1 : List Int} (h : Bst f (fun q => Ext n pre q ∧ q.getD pre.length 0 < K) b0 b1) (hc : pre.contains K = true) : Bst f (fun q => Ext n pre q ∧ q.getD pre.length 0 < K + 1) b0 b1 :=
  h.congr (fun q => ⟨fun ⟨h1, h2⟩ => ⟨h1, by omega⟩, fun ⟨h1, h2⟩ => ⟨h1, by have := ext_not hl hc q h1; omega⟩⟩)
theorem bst_up_all {f : List Nat → List Int} {n : Nat} {pre : List Nat} (hl : pre.length < n) {b0 b1 : List Int} (h : Bst f (fun q => Ext n pre q ∧ q.getD pre.length 0 < n) b0 b1) : Bst f (Ext n pre) b0 b1 := h.congr (fun q => ⟨fun h => h.1, fun h => ⟨h, ext_lt hl h⟩⟩)
/-- from the greatest down -/
theorem bst_dn {f : List Nat → List Int} {n K : Nat} {pre : List Nat} (hl : pre.length < n) {b0 b1 b2 : List Int} (h : Bst f (fun q => Ext n pre q ∧ K + 1 ≤ q.getD pre.length 0) b0 b1) (g : Bst f (Ext n (pre ++ [K])) b1 b2) : Bst f (fun q => Ext n pre q ∧ K ≤ q.getD pre.length 0) b0 b2 :=
  (h.trans g).congr (fun q => by
    rw [← ext_next hl]
    constructor
    · rintro (⟨h1, h2⟩ | ⟨h1, h2⟩)
      · exact ⟨h1, by omega⟩
      · exact ⟨h1, by omega⟩
    · rintro ⟨h1, h2⟩
      by_cases e : q.getD pre.length 0 = K
      · exact .inr ⟨h1, e⟩
      · exact .inl ⟨h1, by omega⟩)
theorem bst_dn_no {f : List Nat → List Int} {n K : Nat} {pre : List Nat} (hl : pre.length < n) {b0 b1 : List Int} (h : Bst f (fun q => Ext n pre q ∧ K + 1 ≤ q.getD pre.length 0) b0 b1) (hc : pre.contains K = true) : Bst f (fun q => Ext n pre q ∧ K ≤ q.getD pre.length 0) b0 b1 :=
  h.congr (fun q => ⟨fun ⟨h1, h2⟩ => ⟨h1, by omega⟩, fun ⟨h1, h2⟩ => ⟨h1, by have := ext_not hl hc q h1; omega⟩⟩)
theorem bst_dn_all {f : List Nat → List Int} {n : Nat} {pre : List Nat} {b0 b1 : List Int} (h : Bst f (fun q => Ext n pre q ∧ 0 ≤ q.getD pre.length 0) b0 b1) : Bst f (Ext n pre) b0 b1 := h.congr (fun q => ⟨fun h => h.1, fun h => ⟨h, Nat.zero_le _⟩⟩)
end Go.Proofs.Ytdcdhdlklppalaa
