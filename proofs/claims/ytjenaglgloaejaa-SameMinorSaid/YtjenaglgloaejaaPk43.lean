
/-
  rotaref.Minor.
-/
import Derived.Test.YtjenaglgloaejaaPk33
import Derived.Test.YtjenaglgloaejaaPk42
import Derived.Test.YtjenaglgloaejaaPk15
namespace Go.Proofs.Ytjenaglgloaejaa
open Go.RowKit
set_option linter.unusedVariables false

def MBr (w : World) (g : Nat) (n : Int) (ad : Option Addr) (cp : Nat) (xs : List Int) : Prop := RowL w g 24 [.int .i64 n, .slice ad xs.length cp] ∧ IntsAt w.heap.size w ad xs
def BoxR (C : World) (q : Nat) (X : List Nat) (x_ : Value) (w_ : World) : Prop := ∃ (gy : Nat) (ay : Option Addr) (cy : Nat) (z : Later C.heap.size C), x_ = .pointer (some ⟨gy, 0, none⟩) ∧ w_ = z.val ∧ MBr z.val gy q ay cy (ints X)
theorem boxR_of {C : World} {q : Nat} {X : List Nat} (v4 : Later C.heap.size C) (v5 : Later (v4.val.alloc (.cells #[.int .i64 0, .slice none 0 0] 24)).heap.size (v4.val.alloc (.cells #[.int .i64 0, .slice none 0 0] 24))) {ay : Option Addr} {cy : Nat} (hO : Own (v4.val.alloc (.cells #[.int .i64 0, .slice none 0 0] 24)).heap.size v5.val ay cy (ints X)) : BoxR C q X (.pointer (some ⟨v4.val.heap.size, 0, none⟩)) ((v5.val.setCell ⟨v4.val.heap.size, 0, none⟩ (.int .i64 q)).setCell ⟨v4.val.heap.size, 1, none⟩ (.slice ay (ints X).length cy)) := by
  have XR := (RowL.new v4.val 24 [.int .i64 0, .slice none 0 0]).keep v5.below
  have hs : v4.val.heap.size < (v4.val.alloc (.cells #[.int .i64 0, .slice none 0 0] 24)).heap.size := by simp
  obtain ⟨z, hz⟩ := later_set (later_set (B := C.heap.size) (W := C) ⟨(v4.alloc _).up v5, rfl⟩ (g := v4.val.heap.size) (i := 0) v4.size (.int .i64 q)) (g := v4.val.heap.size) (i := 1) v4.size (.slice ay (ints X).length cy)
  refine ⟨_, ay, cy, z, rfl, hz.symm, ?_⟩
  rw [hz]
  exact ⟨(XR.set 0 _).set 1 _, ((hO.set hs _).set hs _).reads⟩
theorem boxR_of2 {C : World} {q : Nat} {X : List Nat} (v5 : Later C.heap.size C) {B5 : Nat} {ay : Option Addr} {cy : Nat} (hO : Own B5 v5.val ay cy (ints X)) : BoxR C q X (.pointer (some ⟨v5.val.heap.size, 0, none⟩)) (((v5.val.alloc (.cells #[.int .i64 0, .slice none 0 0] 24)).setCell ⟨v5.val.heap.size, 0, none⟩ (.int .i64 q)).setCell ⟨v5.val.heap.size, 1, none⟩ (.slice ay (ints X).length cy)) := by
  have XR := RowL.new v5.val 24 [.int .i64 0, .slice none 0 0]
  obtain ⟨z, hz⟩ := later_set (later_set (B := v5.val.heap.size) (W := v5.val) ⟨(Later.self v5.val).alloc (.cells #[.int .i64 0, .slice none 0 0] 24), rfl⟩ (g := v5.val.heap.size) (i := 0) (Nat.le_refl _) (.int .i64 q)) (g := v5.val.heap.size) (i := 1) (Nat.le_refl _) (.slice ay (ints X).length cy)
  refine ⟨_, ay, cy, v5.up z, rfl, hz.symm, ?_⟩
  show MBr z.val _ _ _ _ _
  refine ⟨?_, hO.reads.to z⟩
  rw [hz]
  exact (XR.set 0 _).set 1 _
theorem boxR_of0 {C : World} {q : Nat} {X : List Nat} (v5 : Later C.heap.size C) {gy B5 : Nat} (hg : C.heap.size ≤ gy) (XR : RowL v5.val gy 24 [.int .i64 0, .slice none 0 0]) (hs : gy < B5) {ay : Option Addr} {cy : Nat} (hO : Own B5 v5.val ay cy (ints X)) : BoxR C q X (.pointer (some ⟨gy, 0, none⟩)) ((v5.val.setCell ⟨gy, 0, none⟩ (.int .i64 q)).setCell ⟨gy, 1, none⟩ (.slice ay (ints X).length cy)) := by
  obtain ⟨z, hz⟩ := later_set (later_set (B := C.heap.size) (W := C) ⟨v5, rfl⟩ (g := gy) (i := 0) hg (.int .i64 q)) (g := gy) (i := 1) hg (.slice ay (ints X).length cy)
  refine ⟨_, ay, cy, z, rfl, hz.symm, ?_⟩
  rw [hz]
  exact ⟨(XR.set 0 _).set 1 _, ((hO.set hs _).set hs _).reads⟩
theorem isoRef_e {r : Option (List Nat)} {v : Value} {w : World} (h : IsoRef r v w) : ∃ (pa : Option Addr) (pl pc : Nat) (ok : Bool), v = .tuple #[.slice pa pl pc, .bool ok] ∧ ((r = none ∧ ok = false) ∨ (r ≠ none ∧ ok = true)) := by
  rcases h with ⟨hr, rfl⟩ | ⟨pq, ap, cpp, hr, rfl, _⟩
  · exact ⟨_, _, _, _, rfl, .inl ⟨hr, rfl⟩⟩
  · exact ⟨_, _, _, _, rfl, .inr ⟨by rw [hr]; simp, rfl⟩⟩
def MnRef : Option (Nat × Nat) → Value
  | some (d, c) => .tuple #[.int .i64 d, .int .i64 c, .bool true]
  | none => .tuple #[.int .i64 0, .int .i64 0, .bool false]

set_option maxRecDepth 100000 in
set_option maxHeartbeats 16000000 in
theorem c_refMinor {B : Nat} {W : World} (u : Later B W) (n q r1 r2 : Nat) (L K : List Nat) (a b : Option Addr) (cap capb : Nat) (h1 : IntsAt B W a (ints L)) (h2 : IntsAt B W b (ints K)) (hlen1 : L.length ≤ 256) (hlen2 : K.length ≤ 256) (hL : MatL n L r1) (hK : MatL q K r2) (hρ : RkM n (rk L)) :
    Calls Try.prog 7 #[.agg #[.int .i64 n, .slice a L.length cap], .agg #[.int .i64 q, .slice b K.length capb]] u.val (RetP B W (fun v w => ∃ r, FirstM (MnP n q L K) (bit n) r ∧ v = MnRef r)) := by
  have hn8 := hL.n8
  have hq8 := hK.n8
  have hbn := bit_le n hn8
  have hbq := bit_le q hq8
  have hs1 : (u.val.alloc (.cells #[.int .i64 n, .slice a L.length cap] 24)).heap.size = u.val.heap.size + 1 := by simp
  have HA : Hid (RowL ((u.val.alloc (.cells #[.int .i64 n, .slice a L.length cap] 24)).alloc (.cells #[.int .i64 q, .slice b K.length capb] 24)) u.val.heap.size 24 [.int .i64 n, .slice a L.length cap]) := Lib.hid ((RowL.new _ _ _).keep ((Below.refl _ _).alloc (Nat.le_refl _) _))
  have HB2 : Hid (RowL ((u.val.alloc (.cells #[.int .i64 n, .slice a L.length cap] 24)).alloc (.cells #[.int .i64 q, .slice b K.length capb] 24)) (u.val.heap.size + 1) 24 [.int .i64 q, .slice b K.length capb]) := Lib.hid (by
    have := RowL.new (u.val.alloc (.cells #[.int .i64 n, .slice a L.length cap] 24)) 24 [.int .i64 q, .slice b K.length capb]
    rwa [hs1] at this)
  have HVY : Hid (∀ v : Later ((u.val.alloc (.cells #[.int .i64 n, .slice a L.length cap] 24)).alloc (.cells #[.int .i64 q, .slice b K.length capb] 24)).heap.size ((u.val.alloc (.cells #[.int .i64 n, .slice a L.length cap] 24)).alloc (.cells #[.int .i64 q, .slice b K.length capb] 24)), ∃ w : Later B W, w.val = v.val) := Lib.hid (fun v => ⟨((u.alloc _).alloc _).up v, rfl⟩)
  have I1 : Hid (IntsAt ((u.val.alloc (.cells #[.int .i64 n, .slice a L.length cap] 24)).alloc (.cells #[.int .i64 q, .slice b K.length capb] 24)).heap.size ((u.val.alloc (.cells #[.int .i64 n, .slice a L.length cap] 24)).alloc (.cells #[.int .i64 q, .slice b K.length capb] 24)) a (ints L)) := Lib.hid (h1.to ((u.alloc _).alloc _))
  have I2 : Hid (IntsAt ((u.val.alloc (.cells #[.int .i64 n, .slice a L.length cap] 24)).alloc (.cells #[.int .i64 q, .slice b K.length capb] 24)).heap.size ((u.val.alloc (.cells #[.int .i64 n, .slice a L.length cap] 24)).alloc (.cells #[.int .i64 q, .slice b K.length capb] 24)) b (ints K)) := Lib.hid (h2.to ((u.alloc _).alloc _))
  have HL := Lib.hid hL
  have HK := Lib.hid hK
  have HRk := Lib.hid hρ
  clear h1 h2 hs1 hL hK hρ
  go_enter Try.func7, Try.ntmps7
  go_upto_region 1 with fail
  generalize ((u.val.alloc (.cells #[.int .i64 n, .slice a L.length cap] 24)).alloc (.cells #[.int .i64 q, .slice b K.length capb] 24)) = Y at *
  generalize u.val.heap.size = g at *
  have HQ : Hid (∀ (d c : Nat), d < bit n → c < bit n → (MnQ n q L K d c ↔ MnP n q L K d c)) := Lib.hid (fun d c h1 h2 => mnQ_iff (r := 0) HRk.out HK.out h1 h2)
  obtain ⟨y, hy⟩ : ∃ y : Later Y.heap.size Y, y.val = Y := ⟨Later.self _, rfl⟩
  have Q0 : ∀ w : Later Y.heap.size Y, w.val.cell? ⟨g, 0, none⟩ = some (.int .i64 n) := fun w => (HA.out.keep w.below).cell rfl
  have Q1 : ∀ w : Later Y.heap.size Y, w.val.cell? ⟨g, 1, none⟩ = some (.slice a L.length cap) := fun w => (HA.out.keep w.below).cell rfl
  have Q2 : ∀ w : Later Y.heap.size Y, w.val.cell? ⟨g + 1, 0, none⟩ = some (.int .i64 q) := fun w => (HB2.out.keep w.below).cell rfl
  have Q3 : ∀ w : Later Y.heap.size Y, w.val.cell? ⟨g + 1, 1, none⟩ = some (.slice b K.length capb) := fun w => (HB2.out.keep w.below).cell rfl
  rw [← hy]
  clear hy HA HB2
  generalize hg' : g + 1 = g' at *
  clear hg'
  have KA : Hid (∀ w : Later Y.heap.size Y, Calls Try.prog 29 #[.int .i64 n] w.val (Ret Y.heap.size Y (.int .i64 ((bit n - 1 : Nat) : Int)))) := Lib.hid (fun w => by
    have h3 := c_all w (n : Int) (by omega) (by omega)
    rwa [all_nat] at h3)
  have KSz : Hid (∀ (w : Later Y.heap.size Y) (s : Nat), s < 256 → Calls Try.prog 27 #[.int .i64 s] w.val (Ret Y.heap.size Y (.int .i64 (sz s)))) := Lib.hid (fun w s hs => c_size w s hs)
  go_wp2
  go_loopw [7] (fun dv wr => ∃ (d : Nat) (x : Later Y.heap.size Y), d ≤ bit n ∧ dv = .int .i64 d ∧ wr = x.val ∧ Hid (∀ d' c', d' < d → c' < bit n → ¬ MnP n q L K d' c')) (fun dv _ => bit n - (intOf dv).toNat)
  case atStart => exact ⟨0, y, by omega, by first | rfl | go_num, rfl, Lib.hid (fun d' c' h => by omega)⟩
  case round =>
    clear y
    obtain ⟨d, x, hd, rfl, rfl, HD⟩ := hrel
    have Q0x := Q0 x
    have KAx := Lib.hid (KA.out x)
    by_cases hdl : d < bit n
    case neg =>
      have hde : d = bit n := by omega
      have HF : Hid (FirstM (MnP n q L K) (bit n) none) := Lib.hid (.inl ⟨rfl, fun d' c' h1 h2 => HD.out d' c' (by omega) h2⟩)
      have c1 : decide ((d : Int) ≤ ((bit n - 1 : Nat) : Int)) = false := decide_eq_false (by omega)
      clear hde
      go_wp2_with (first | (go_at_call 29; (with_reducible refine (KAx.out).mono ?_); rintro e _ ⟨rfl, v, rfl⟩))
      go_ret3
      exact RetP.of (HVY.out v) ⟨none, HF.out, rfl⟩
    have c1 : decide ((d : Int) ≤ ((bit n - 1 : Nat) : Int)) = true := decide_eq_true (by omega)
    have hsd := sz_le d
    have wd := IntWalk.i64_in ((n : Int) - (sz d : Int)) (by omega)
    have KD0 : Hid (∀ w : Later Y.heap.size Y, Calls Try.prog 27 #[.int .i64 d] w.val (Ret Y.heap.size Y (.int .i64 (sz d)))) := Lib.hid (fun w => KSz.out w d (by omega))
    go_upto_region 4 with (first | (go_at_call 29; (with_reducible refine (KAx.out).mono ?_); rintro e _ ⟨rfl, v, rfl⟩; have Q0v := Q0 v) | fail)
    clear Q0x KAx c1
    have KDv : Hid (∀ y : Later v.val.heap.size v.val, Calls Try.prog 27 #[.int .i64 d] y.val (Ret v.val.heap.size v.val (.int .i64 (sz d)))) := Lib.hid (fun y => c_size y d (by omega))
    have k0 : ∀ w : Later v.val.heap.size v.val, w.val.cell? ⟨g, 0, none⟩ = some (.int .i64 n) := fun w => Q0 (v.up w)
    have k2 : ∀ w : Later v.val.heap.size v.val, w.val.cell? ⟨g', 0, none⟩ = some (.int .i64 q) := fun w => Q2 (v.up w)
    obtain ⟨y, hy⟩ : ∃ y : Later v.val.heap.size v.val, y.val = v.val := ⟨Later.self _, rfl⟩
    rw [← hy]
    clear hy Q0v
    by_cases hqd : q + sz d ≤ n
    case neg =>
      have c1 : decide ((n : Int) - (sz d : Int) < (q : Int)) = true := decide_eq_true (by omega)
      have HN : Hid (∀ d' c', d' < d + 1 → c' < bit n → ¬ MnP n q L K d' c') := Lib.hid (fun d' c' h1 h2 => by
        by_cases e : d' = d
        · subst e; exact fun h => hqd ((HQ.out d' c' hdl h2).2 h).1
        · exact HD.out d' c' (by omega) h2)
      clear hqd
      refine wp_region_later y (by kernel_rfl) (by kernel_rfl) (fun _ => ?_)
      repeat (first | go_big_quiet_step (((go_at_call 27; exact (KDv.out _)))) | (refine wpQuiet_step (fun K hK => ?_); go_simp; refine ⟨_, fun _ => rfl, ?_⟩; refine hK _ ?_; clear hK K))
      refine wpQuiet_nil ?_
      intro y
      go_wp2
      go_roundw
      case rel => exact ⟨d + 1, v.up y, by omega, by go_num, by first | rfl | trivial, HN⟩
      case measure => simp [intOf]; omega
    have c1 : decide ((n : Int) - (sz d : Int) < (q : Int)) = false := decide_eq_false (by omega)
    refine wp_region_later y (by kernel_rfl) (by kernel_rfl) (fun _ => ?_)
    repeat (first | go_big_quiet_step (((go_at_call 27; exact (KDv.out _)))) | (refine wpQuiet_step (fun K hK => ?_); go_simp; refine ⟨_, fun _ => rfl, ?_⟩; refine hK _ ?_; clear hK K))
    refine wpQuiet_nil ?_
    intro y
    clear k0 k2 KDv KD0
    have Q0y : y.val.cell? ⟨g, 0, none⟩ = some (.int .i64 n) := Q0 (v.up y)
    have Q1y : y.val.cell? ⟨g, 1, none⟩ = some (.slice a L.length cap) := Q1 (v.up y)
    have KDl : Hid (Calls Try.prog 30 #[.agg #[.int .i64 n, .slice a L.length cap], .int .i64 d] y.val (RetP y.val.heap.size y.val (MatO y.val.heap.size (cnt d n : Nat) (ints (mnL n d 0 L))))) := Lib.hid (by
      have h3 := c_refDeleted (Later.self y.val) n hn8 L a cap (I1.out.to (v.up y)) (by rw [ints_len]; omega) HL.out.fam8' (toN_ints_eq L) d hdl
      rwa [mnL_del, ints_len] at h3)
    go_upto_region 6 with (first | (go_at_call 30; (with_reducible refine (KDl.out).mono ?_); rintro e _ ⟨_, rfl, ⟨ad, cp, rfl, hO⟩, v3, rfl⟩) | fail)
    rw [ints_len]
    have N0 : Hid (MBr (v3.val.alloc (.cells #[.int .i64 (cnt d n : Nat), .slice ad (ints (mnL n d 0 L)).length cp] 24)) v3.val.heap.size (cnt d n : Nat) ad cp (ints (mnL n d 0 L))) := Lib.hid ⟨RowL.new _ _ _, (hO.reads).to ((Later.self v3.val).alloc _)⟩
    rw [ints_len] at N0
    obtain ⟨C, hC⟩ : ∃ C, C = (v3.val.alloc (.cells #[.int .i64 (cnt d n : Nat), .slice ad (mnL n d 0 L).length cp] 24)) := ⟨_, rfl⟩
    have HCY : Hid (∀ x : Later C.heap.size C, ∃ w : Later Y.heap.size Y, w.val = x.val) := Lib.hid (fun x => by
      subst hC
      exact ⟨v.up (y.up ((v3.alloc _).up x)), rfl⟩)
    rw [← hC] at N0 ⊢
    generalize v3.val.heap.size = gz at *
    clear hC hO KDl Q0y Q1y v3 wd c1 hsd
    have HVC : Hid (∀ x : Later C.heap.size C, ∃ w : Later B W, w.val = x.val) := Lib.hid (fun x => by
      obtain ⟨w, hw⟩ := HCY.out x
      rw [← hw]; exact HVY.out w)
    have P0 : ∀ x : Later C.heap.size C, x.val.cell? ⟨g, 0, none⟩ = some (.int .i64 n) := fun x => by
      obtain ⟨w, hw⟩ := HCY.out x
      rw [← hw]; exact Q0 w
    have P2 : ∀ x : Later C.heap.size C, x.val.cell? ⟨g', 0, none⟩ = some (.int .i64 q) := fun x => by
      obtain ⟨w, hw⟩ := HCY.out x
      rw [← hw]; exact Q2 w
    have P3 : ∀ x : Later C.heap.size C, x.val.cell? ⟨g', 1, none⟩ = some (.slice b K.length capb) := fun x => by
      obtain ⟨w, hw⟩ := HCY.out x
      rw [← hw]; exact Q3 w
    have R0 : ∀ x : Later C.heap.size C, x.val.cell? ⟨gz, 0, none⟩ = some (.int .i64 (cnt d n : Nat)) := fun x => (N0.out.1.keep x.below).cell rfl
    have R1 : ∀ x : Later C.heap.size C, x.val.cell? ⟨gz, 1, none⟩ = some (.slice ad (mnL n d 0 L).length cp) := fun x => by
      have := (N0.out.1.keep x.below).cell (i := 1) rfl
      rwa [ints_len] at this
    have HI2 : Hid (∀ x : Later C.heap.size C, IntsAt x.val.heap.size x.val b (ints K)) := Lib.hid (fun x => by
      obtain ⟨w, hw⟩ := HCY.out x
      rw [← hw]; exact I2.out.to w)
    have KAc : Hid (∀ x : Later C.heap.size C, Calls Try.prog 29 #[.int .i64 n] x.val (Ret C.heap.size C (.int .i64 ((bit n - 1 : Nat) : Int)))) := Lib.hid (fun w => by
      have h3 := c_all w (n : Int) (by omega) (by omega)
      rwa [all_nat] at h3)
    obtain ⟨x, hx⟩ : ∃ x : Later C.heap.size C, x.val = C := ⟨Later.self _, rfl⟩
    rw [← hx]
    clear hx
    go_wp2
    go_loopw [9] (fun cv wr => ∃ (c : Nat) (x : Later C.heap.size C), c ≤ bit n ∧ cv = .int .i64 c ∧ wr = x.val ∧ Hid (∀ c', c' < c → ¬ MnP n q L K d c')) (fun cv _ => bit n - (intOf cv).toNat)
    case atStart => exact ⟨0, x, by omega, by first | rfl | go_num, rfl, Lib.hid (fun c' h => by omega)⟩
    case round =>
      clear x
      obtain ⟨c, x, hc, rfl, rfl, HC⟩ := hrel
      have P0x := P0 x
      have KAx := Lib.hid (KAc.out x)
      by_cases hcl : c < bit n
      case neg =>
        have hce : c = bit n := by omega
        have HN : Hid (∀ d' c', d' < d + 1 → c' < bit n → ¬ MnP n q L K d' c') := Lib.hid (fun d' c' h1 h2 => by
          by_cases e : d' = d
          · subst e; exact HC.out c' (by omega)
          · exact HD.out d' c' (by omega) h2)
        have c1 : decide ((c : Int) ≤ ((bit n - 1 : Nat) : Int)) = false := decide_eq_false (by omega)
        clear hce
        go_wp2_with (first | (go_at_call 29; (with_reducible refine (KAx.out).mono ?_); rintro e _ ⟨rfl, v, rfl⟩))
        obtain ⟨w, hw⟩ := HCY.out v
        rw [← hw]
        go_roundw
        case rel => exact ⟨d + 1, w, by omega, by go_num, by first | rfl | trivial, HN⟩
        case measure => simp [intOf]; omega
      have c1 : decide ((c : Int) ≤ ((bit n - 1 : Nat) : Int)) = true := decide_eq_true (by omega)
      go_upto_region 9 with (first | (go_at_call 29; (with_reducible refine (KAx.out).mono ?_); rintro e _ ⟨rfl, v, rfl⟩) | fail)
      clear P0x KAx c1
      have HN : Hid (¬ MnQ n q L K d c → ∀ c', c' < c + 1 → ¬ MnP n q L K d c') := Lib.hid (fun h c' hc' => by
        by_cases e : c' = c
        · subst e; exact fun k => h ((HQ.out d c' hdl hcl).2 k)
        · exact HC.out c' (by omega))
      have hd256 : d < 256 := by omega
      have hc256 : c < 256 := by omega
      have KS : Hid (∀ (y : Later v.val.heap.size v.val) (s : Nat), s < 256 → Calls Try.prog 27 #[.int .i64 s] y.val (Ret v.val.heap.size v.val (.int .i64 (sz s)))) := Lib.hid (fun y s hs => c_size y s hs)
      have k0 : ∀ w : Later v.val.heap.size v.val, w.val.cell? ⟨g, 0, none⟩ = some (.int .i64 n) := fun w => P0 (v.up w)
      have k2 : ∀ w : Later v.val.heap.size v.val, w.val.cell? ⟨g', 0, none⟩ = some (.int .i64 q) := fun w => P2 (v.up w)
      have hsd := sz_le d
      have hsc := sz_le c
      have wd := IntWalk.i64_in ((n : Int) - (sz d : Int)) (by omega)
      have wc := IntWalk.i64_in ((n : Int) - (sz d : Int) - (sz c : Int)) (by omega)
      have a1 := i64_and c d (by omega) (by omega)
      obtain ⟨y, hy⟩ : ∃ y : Later v.val.heap.size v.val, y.val = v.val := ⟨Later.self _, rfl⟩
      rw [← hy]
      clear hy
      by_cases h1 : c &&& d = 0
      case neg =>
        have d1 : (((c &&& d : Nat) : Int) != 0) = true := by rw [bne_iff_ne]; omega
        have HS := Lib.hid (HN.out (fun h => h1 h.2.1))
        clear HN h1
        refine wp_region_later y (by kernel_rfl) (by kernel_rfl) (fun _ => ?_)
        repeat (first | go_big_quiet_step (((go_at_call 27; exact (KS.out _ _ (by first | exact hd256 | exact hc256))))) | (refine wpQuiet_step (fun K hK => ?_); go_simp; refine ⟨_, fun _ => rfl, ?_⟩; refine hK _ ?_; clear hK K))
        refine wpQuiet_nil ?_
        intro y
        go_wp2
        go_roundw
        case rel => exact ⟨c + 1, v.up y, by omega, by go_num, by first | rfl | trivial, HS⟩
        case measure => simp [intOf]; omega
      have d1 : (((c &&& d : Nat) : Int) != 0) = false := by rw [h1]; rfl
      by_cases h2 : q + sz d + sz c = n
      case neg =>
        have d2 : ((n : Int) - (sz d : Int) - (sz c : Int) != (q : Int)) = true := by rw [bne_iff_ne]; omega
        have HS := Lib.hid (HN.out (fun h => h2 h.2.2.1))
        clear HN h1 h2
        refine wp_region_later y (by kernel_rfl) (by kernel_rfl) (fun _ => ?_)
        repeat (first | go_big_quiet_step (((go_at_call 27; exact (KS.out _ _ (by first | exact hd256 | exact hc256))))) | (refine wpQuiet_step (fun K hK => ?_); go_simp; refine ⟨_, fun _ => rfl, ?_⟩; refine hK _ ?_; clear hK K))
        refine wpQuiet_nil ?_
        intro y
        go_wp2
        go_roundw
        case rel => exact ⟨c + 1, v.up y, by omega, by go_num, by first | rfl | trivial, HS⟩
        case measure => simp [intOf]; omega
      have d2 : ((n : Int) - (sz d : Int) - (sz c : Int) != (q : Int)) = false := by rw [bne_eq_false_iff_eq]; omega
      have Hh1 := Lib.hid h1
      have Hh2 := Lib.hid h2
      clear h1 h2
      refine wp_region_later y (by kernel_rfl) (by kernel_rfl) (fun _ => ?_)
      repeat (first | go_big_quiet_step (((go_at_call 27; exact (KS.out _ _ (by first | exact hd256 | exact hc256))))) | (refine wpQuiet_step (fun K hK => ?_); go_simp; refine ⟨_, fun _ => rfl, ?_⟩; refine hK _ ?_; clear hK K))
      refine wpQuiet_nil ?_
      intro y
      clear KS k0 k2 wd wc a1 hsd hsc
      go_upto_region 10 with fail
      clear d1 d2
      have hcn : cnt (d ||| c) n = q := by have := cnt_dc hn8 hdl hcl Hh1.out; have := Hh2.out; omega
      have HM0 : Hid (MatL (cnt d n) (mnL n d 0 L) (mnK n d 0 L)) := Lib.hid (by
        have := mnL_mt (d := d) (c := 0) HRk.out (Nat.two_pow_pos n)
        rwa [Nat.or_zero] at this)
      have HM1 : Hid (MatL q (mnL n d c L) (mnK n d c L)) := Lib.hid (by
        have := mnL_mt (d := d) HRk.out hcl
        rwa [hcn] at this)
      have KSh : Hid (Calls Try.prog 32 #[.int .i64 n, .int .i64 d, .int .i64 c] y.val.drew (Ret y.val.drew.heap.size y.val.drew (.int .i64 (prTo d c n : Nat)))) := Lib.hid (c_refShifted (Later.self y.val.drew) n d c hn8 hd256 hc256)
      have KCn : Hid (∀ w : Later y.val.drew.heap.size y.val.drew, Calls Try.prog 31 #[.agg #[.int .i64 (cnt d n : Nat), .slice ad (mnL n d 0 L).length cp], .int .i64 (prTo d c n : Nat)] w.val (RetP w.val.heap.size w.val (MatO w.val.heap.size (q : Nat) (ints (mnL n d c L))))) := Lib.hid (fun w => by
        have h3 := c_refContracted (Later.self w.val) (cnt d n) HM0.out.n8 (mnL n d 0 L) ad cp (N0.out.2.to ((v.up y).drew.up w)) (by
          rw [ints_len, HM0.out.rise]
          have h4 := thoseTo_len (memB (mnL n d 0 L)) (bit (cnt d n))
          have h5 := bit_le (cnt d n) HM0.out.n8
          exact Nat.le_trans h4 (by omega)) HM0.out.fam8' (toN_ints_eq _) (prTo d c n) (prTo_lt d c n)
        rwa [mnL_con HRk.out hcl Hh1.out, cnt_pr Hh1.out, hcn, ints_len] at h3)
      have KCa : Hid (∀ v4 : Later y.val.drew.heap.size y.val.drew, Calls Try.prog 31 #[.agg #[.int .i64 (cnt d n : Nat), .slice ad (mnL n d 0 L).length cp], .int .i64 (prTo d c n : Nat)] (v4.val.alloc (.cells #[.int .i64 0, .slice none 0 0] 24)) (RetP (v4.val.alloc (.cells #[.int .i64 0, .slice none 0 0] 24)).heap.size (v4.val.alloc (.cells #[.int .i64 0, .slice none 0 0] 24)) (MatO (v4.val.alloc (.cells #[.int .i64 0, .slice none 0 0] 24)).heap.size (q : Nat) (ints (mnL n d c L))))) := Lib.hid (fun v4 => KCn.out (v4.alloc _))
      have HRA : Hid (RowL (y.val.alloc (.cells #[.int .i64 0, .slice none 0 0] 24)).drew y.val.heap.size 24 [.int .i64 0, .slice none 0 0]) := Lib.hid ((RowL.new y.val _ _).keep (Later.self (y.val.alloc (.cells #[.int .i64 0, .slice none 0 0] 24))).drew.below)
      have hAs : y.val.heap.size < (y.val.alloc (.cells #[.int .i64 0, .slice none 0 0] 24)).drew.heap.size := HRA.out.lt
      have KShA : Hid (Calls Try.prog 32 #[.int .i64 n, .int .i64 d, .int .i64 c] (y.val.alloc (.cells #[.int .i64 0, .slice none 0 0] 24)).drew (Ret (y.val.alloc (.cells #[.int .i64 0, .slice none 0 0] 24)).drew.heap.size (y.val.alloc (.cells #[.int .i64 0, .slice none 0 0] 24)).drew (.int .i64 (prTo d c n : Nat)))) := Lib.hid (c_refShifted (Later.self (y.val.alloc (.cells #[.int .i64 0, .slice none 0 0] 24)).drew) n d c hn8 hd256 hc256)
      have KCnA : Hid (∀ w : Later (y.val.alloc (.cells #[.int .i64 0, .slice none 0 0] 24)).drew.heap.size (y.val.alloc (.cells #[.int .i64 0, .slice none 0 0] 24)).drew, Calls Try.prog 31 #[.agg #[.int .i64 (cnt d n : Nat), .slice ad (mnL n d 0 L).length cp], .int .i64 (prTo d c n : Nat)] w.val (RetP w.val.heap.size w.val (MatO w.val.heap.size (q : Nat) (ints (mnL n d c L))))) := Lib.hid (fun w => by
        have h3 := c_refContracted (Later.self w.val) (cnt d n) HM0.out.n8 (mnL n d 0 L) ad cp (N0.out.2.to (((v.up y).alloc (.cells #[.int .i64 0, .slice none 0 0] 24)).drew.up w)) (by
          rw [ints_len, HM0.out.rise]
          have h4 := thoseTo_len (memB (mnL n d 0 L)) (bit (cnt d n))
          have h5 := bit_le (cnt d n) HM0.out.n8
          exact Nat.le_trans h4 (by omega)) HM0.out.fam8' (toN_ints_eq _) (prTo d c n) (prTo_lt d c n)
        rwa [mnL_con HRk.out hcl Hh1.out, cnt_pr Hh1.out, hcn, ints_len] at h3)
      have A0 : (y.val.alloc (.cells #[.int .i64 0, .slice none 0 0] 24)).drew.cell? ⟨g, 0, none⟩ = some (.int .i64 n) := P0 ((v.up y).alloc (.cells #[.int .i64 0, .slice none 0 0] 24)).drew
      have A1 : (y.val.alloc (.cells #[.int .i64 0, .slice none 0 0] 24)).drew.cell? ⟨gz, 0, none⟩ = some (.int .i64 (cnt d n : Nat)) := R0 ((v.up y).alloc (.cells #[.int .i64 0, .slice none 0 0] 24)).drew
      have A2 : (y.val.alloc (.cells #[.int .i64 0, .slice none 0 0] 24)).drew.cell? ⟨gz, 1, none⟩ = some (.slice ad (mnL n d 0 L).length cp) := R1 ((v.up y).alloc (.cells #[.int .i64 0, .slice none 0 0] 24)).drew
      have D0 : y.val.drew.cell? ⟨g, 0, none⟩ = some (.int .i64 n) := P0 (v.up y).drew
      have D1 : y.val.drew.cell? ⟨gz, 0, none⟩ = some (.int .i64 (cnt d n : Nat)) := R0 (v.up y).drew
      have D2 : y.val.drew.cell? ⟨gz, 1, none⟩ = some (.slice ad (mnL n d 0 L).length cp) := R1 (v.up y).drew
      have e35 : decide (c ≤ bit n - 1) = true := decide_eq_true (by omega)
      try rw [e35]
      clear e35
      go_cut [10] from 55 to 61 (fun x_ w_ => BoxR C q (mnL n d c L) x_ w_)
      case first => as_aux_lemma =>
        go_region_law (first | (go_simp; go_at_call 32; (with_reducible refine (KSh.out).mono ?_); rintro e _ ⟨rfl, v4, rfl⟩; have E1 : v4.val.cell? ⟨gz, 0, none⟩ = some (.int .i64 (cnt d n : Nat)) := R0 ((v.up y).drew.up v4); have E2 : v4.val.cell? ⟨gz, 1, none⟩ = some (.slice ad (mnL n d 0 L).length cp) := R1 ((v.up y).drew.up v4); have F1 : (v4.val.alloc (.cells #[.int .i64 0, .slice none 0 0] 24)).cell? ⟨gz, 0, none⟩ = some (.int .i64 (cnt d n : Nat)) := R0 (((v.up y).drew.up v4).alloc (.cells #[.int .i64 0, .slice none 0 0] 24)); have F2 : (v4.val.alloc (.cells #[.int .i64 0, .slice none 0 0] 24)).cell? ⟨gz, 1, none⟩ = some (.slice ad (mnL n d 0 L).length cp) := R1 (((v.up y).drew.up v4).alloc (.cells #[.int .i64 0, .slice none 0 0] 24))) | (go_simp; go_at_call 32; (with_reducible refine (KShA.out).mono ?_); rintro e _ ⟨rfl, v4, rfl⟩; have E1 : v4.val.cell? ⟨gz, 0, none⟩ = some (.int .i64 (cnt d n : Nat)) := R0 ((((v.up y).alloc (.cells #[.int .i64 0, .slice none 0 0] 24)).drew).up v4); have E2 : v4.val.cell? ⟨gz, 1, none⟩ = some (.slice ad (mnL n d 0 L).length cp) := R1 ((((v.up y).alloc (.cells #[.int .i64 0, .slice none 0 0] 24)).drew).up v4)) | (go_simp; go_at_call 31; (with_reducible refine (KCnA.out v4).mono ?_); rintro e _ ⟨_, rfl, ⟨ay, cy, rfl, hO⟩, v5, rfl⟩; have XR := (HRA.out.keep v4.below).keep v5.below; have e0 := XR.cell (i := 0) rfl; have e1 := XR.cell (i := 1) rfl; have f0 := XR.fz 0; have f1 := XR.fz 1; have g1 : ∀ x : Value, (v5.val.setCell ⟨y.val.heap.size, 0, none⟩ x).frozen? ⟨y.val.heap.size, 1, none⟩ = false := fun x => (XR.set 0 x).fz 1) | (go_simp; go_at_call 31; (with_reducible refine (KCa.out v4).mono ?_); rintro e _ ⟨_, rfl, ⟨ay, cy, rfl, hO⟩, v5, rfl⟩; have XR := (RowL.new v4.val 24 [.int .i64 0, .slice none 0 0]).keep v5.below; have e0 := XR.cell (i := 0) rfl; have e1 := XR.cell (i := 1) rfl; have f0 := XR.fz 0; have f1 := XR.fz 1; have g1 : ∀ x : Value, (v5.val.setCell ⟨v4.val.heap.size, 0, none⟩ x).frozen? ⟨v4.val.heap.size, 1, none⟩ = false := fun x => (XR.set 0 x).fz 1) | (go_simp; go_at_call 31; (with_reducible refine (KCn.out v4).mono ?_); rintro e _ ⟨_, rfl, ⟨ay, cy, rfl, hO⟩, v5, rfl⟩; have XR := RowL.new v5.val 24 [.int .i64 0, .slice none 0 0]; have f0 := XR.fz 0; have f1 := XR.fz 1; have g1 : ∀ x : Value, ((v5.val.alloc (.cells #[.int .i64 0, .slice none 0 0] 24)).setCell ⟨v5.val.heap.size, 0, none⟩ x).frozen? ⟨v5.val.heap.size, 1, none⟩ = false := fun x => (XR.set 0 x).fz 1))
        all_goals go_wp2
        all_goals go_meet
        all_goals first | exact boxR_of0 ((((v.up y).alloc _).drew.up v4).up v5) (v.up y).size XR (Nat.lt_of_lt_of_le hAs v4.size) hO | exact boxR_of ((v.up y).drew.up v4) v5 hO | exact ⟨v5.val.heap.size, ay, cy, (((v.up y).drew.up v4).up v5).alloc _, rfl, rfl, RowL.new _ _ _, (hO.reads).to ((Later.self v5.val).alloc _)⟩
      case rest => as_aux_lemma =>
      obtain ⟨gy, ay, cy, z, rfl, rfl, hM⟩ := hcut
      clear KSh KCn KCa KShA KCnA A0 A1 A2 HRA hAs D0 D1 D2 HM0 hcn
      have HMQ : Hid (MnQ n q L K d c ↔ ((mnL n d c L).length = K.length ∧ sz ((mnL n d c L).getD 0 0) = sz (K.getD 0 0) ∧ (ordF false q q (mnL n d c L) K).head? ≠ none)) := Lib.hid (by
        unfold MnQ
        have := Hh1.out
        have := Hh2.out
        exact ⟨fun h => h.2.2.2, fun h => ⟨by omega, by assumption, by assumption, h⟩⟩)
      have HX256 : Hid ((mnL n d c L).length ≤ 256) := Lib.hid (by
        rw [HM1.out.rise]
        exact Nat.le_trans (thoseTo_len (memB (mnL n d c L)) (bit q)) hbq.2)
      generalize mnL n d c L = X at *
      have hX0 : 0 < X.length := List.length_pos_iff.2 HM1.out.ne
      have hK0 : 0 < K.length := List.length_pos_iff.2 HK.out.ne
      have hM2 := hM.2
      obtain ⟨by', oy, rfl, hby, hcy⟩ := hM2.at (k := 0) (by rw [ints_len]; exact hX0)
      obtain ⟨bk, ok, rfl, hbk, hck⟩ := (HI2.out z).at (k := 0) (by rw [ints_len]; exact hK0)
      have t0 : ∀ w : Later z.val.heap.size z.val, w.val.cell? ⟨gy, 1, none⟩ = some (.slice (some ⟨by', oy, none⟩) X.length cy) := fun w => by
        have := (hM.1.keep w.below).cell (i := 1) rfl
        rwa [ints_len] at this
      have t1 : ∀ w : Later z.val.heap.size z.val, w.val.cell? ⟨g', 1, none⟩ = some (.slice (some ⟨bk, ok, none⟩) K.length capb) := fun w => P3 (z.up w)
      have t2 : ∀ w : Later z.val.heap.size z.val, w.val.cell? ⟨by', oy, none⟩ = some (.int .i64 (X.getD 0 0 : Nat)) := fun w => by
        have := hcy w 0 (by rw [ints_len]; exact hX0)
        rwa [ints_getD, Nat.add_zero] at this
      have t3 : ∀ w : Later z.val.heap.size z.val, w.val.cell? ⟨bk, ok, none⟩ = some (.int .i64 (K.getD 0 0 : Nat)) := fun w => by
        have := hck w 0 (by rw [ints_len]; exact hK0)
        rwa [ints_getD, Nat.add_zero] at this
      have x256 : X.getD 0 0 < 256 := by
        have := HM1.out.lt (X.getD 0 0) (by simp [hX0])
        omega
      have k256 : K.getD 0 0 < 256 := by
        have := HK.out.lt (K.getD 0 0) (by simp [hK0])
        omega
      have KS : Hid (∀ (y : Later z.val.heap.size z.val) (s : Nat), s < 256 → Calls Try.prog 27 #[.int .i64 s] y.val (Ret z.val.heap.size z.val (.int .i64 (sz s)))) := Lib.hid (fun y s hs => c_size y s hs)
      have HMr := Lib.hid hM
      clear hM hM2 hcy hck
      generalize hx0 : X.getD 0 0 = x0 at *
      generalize hk0 : K.getD 0 0 = k0 at *
      clear hx0 hk0
      obtain ⟨y2, hy2⟩ : ∃ y2 : Later z.val.heap.size z.val, y2.val = z.val := ⟨Later.self _, rfl⟩
      go_upto_region 11 with fail
      rw [← hy2]
      clear hy2
      by_cases h4 : X.length = K.length
      case neg =>
        have d4 : ((X.length : Int) != (K.length : Int)) = true := by rw [bne_iff_ne]; omega
        have HS := Lib.hid (HN.out (fun h => h4 (HMQ.out.1 h).1))
        clear HN h4 HMQ
        refine wp_region_later y2 (by kernel_rfl) (by kernel_rfl) (fun _ => ?_)
        repeat (first | go_big_quiet_step (((go_at_call 27; exact (KS.out _ _ (by first | exact x256 | exact k256))))) | (refine wpQuiet_step (fun K hK => ?_); go_simp; refine ⟨_, fun _ => rfl, ?_⟩; refine hK _ ?_; clear hK K))
        refine wpQuiet_nil ?_
        intro y2
        go_wp2
        go_roundw
        case rel => exact ⟨c + 1, z.up y2, by omega, by go_num, by first | rfl | trivial, HS⟩
        case measure => simp [intOf]; omega
      have d4 : ((X.length : Int) != (K.length : Int)) = false := by rw [bne_eq_false_iff_eq]; omega
      by_cases h5 : sz x0 = sz k0
      case neg =>
        have d5 : ((sz x0 : Int) != (sz k0 : Int)) = true := by rw [bne_iff_ne]; omega
        have HS := Lib.hid (HN.out (fun h => h5 (HMQ.out.1 h).2.1))
        clear HN h4 h5 HMQ
        refine wp_region_later y2 (by kernel_rfl) (by kernel_rfl) (fun _ => ?_)
        repeat (first | go_big_quiet_step (((go_at_call 27; exact (KS.out _ _ (by first | exact x256 | exact k256))))) | (refine wpQuiet_step (fun K hK => ?_); go_simp; refine ⟨_, fun _ => rfl, ?_⟩; refine hK _ ?_; clear hK K))
        refine wpQuiet_nil ?_
        intro y2
        go_wp2
        go_roundw
        case rel => exact ⟨c + 1, z.up y2, by omega, by go_num, by first | rfl | trivial, HS⟩
        case measure => simp [intOf]; omega
      have d5 : ((sz x0 : Int) != (sz k0 : Int)) = false := by rw [bne_eq_false_iff_eq]; omega
      have HMQ2 : Hid (MnQ n q L K d c ↔ (ordF false q q X K).head? ≠ none) := Lib.hid (by
        rw [HMQ.out]
        exact ⟨fun h => h.2.2, fun h => ⟨h4, h5, h⟩⟩)
      clear HMQ h4 h5
      refine wp_region_later y2 (by kernel_rfl) (by kernel_rfl) (fun _ => ?_)
      repeat (first | go_big_quiet_step (((go_at_call 27; exact (KS.out _ _ (by first | exact x256 | exact k256))))) | (refine wpQuiet_step (fun K hK => ?_); go_simp; refine ⟨_, fun _ => rfl, ?_⟩; refine hK _ ?_; clear hK K))
      refine wpQuiet_nil ?_
      intro y2
      have r0 : y2.val.cell? ⟨gy, 0, none⟩ = some (.int .i64 q) := (HMr.out.1.keep y2.below).cell rfl
      have r1 := t0 y2
      have r2 : y2.val.cell? ⟨g', 0, none⟩ = some (.int .i64 q) := P2 (z.up y2)
      have r3 := t1 y2
      have KI : Hid (Calls Try.prog 14 #[.agg #[.int .i64 q, .slice (some ⟨by', oy, none⟩) X.length cy], .agg #[.int .i64 q, .slice (some ⟨bk, ok, none⟩) K.length capb]] y2.val (RetP y2.val.heap.size y2.val (IsoRef (ordF false q q X K).head?))) := Lib.hid (c_refIso (Later.self y2.val) q q hq8 hq8 X K _ _ cy capb (HMr.out.2.to y2) (HI2.out (z.up y2)) HX256.out hlen2 HM1.out.ne HK.out.ne HM1.out.lt HK.out.lt)
      clear KS t0 t1 t2 t3
      generalize (ordF false q q X K).head? = rr at *
      go_upto_region 13 with (first | (go_at_call 14; (with_reducible refine (KI.out).mono ?_); rintro e _ ⟨_, rfl, hIs, v4, rfl⟩; obtain ⟨pa, pl, pc, okb, rfl, hee⟩ := isoRef_e hIs) | fail)
      clear d4 d5
      rcases hee with ⟨hr, rfl⟩ | ⟨hr, rfl⟩
      · have HS := Lib.hid (HN.out (fun h => HMQ2.out.1 h hr))
        clear HN HMQ2 KI hr
        go_wp2
        go_roundw
        case rel => exact ⟨c + 1, (z.up y2).up v4, by omega, by go_num, by first | rfl | trivial, HS⟩
        case measure => simp [intOf]; omega
      · have HF : Hid (FirstM (MnP n q L K) (bit n) (some (d, c))) := Lib.hid (.inr ⟨d, c, rfl, hdl, hcl, (HQ.out d c hdl hcl).1 (HMQ2.out.2 hr), HD.out, HC.out⟩)
        clear HN HMQ2 KI hr
        go_wp2
        go_ret3
        exact RetP.of (HVC.out ((z.up y2).up v4)) ⟨some (d, c), HF.out, rfl⟩
end Go.Proofs.Ytjenaglgloaejaa
