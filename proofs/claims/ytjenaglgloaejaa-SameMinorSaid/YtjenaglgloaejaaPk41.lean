
/-
  same.Minor where both are matroids.
-/
import Derived.Test.YtjenaglgloaejaaPk27
import Derived.Test.YtjenaglgloaejaaPk40
import Derived.Test.YtjenaglgloaejaaPk28
import Derived.Deep.CutRange
namespace Go.Proofs.Ytjenaglgloaejaa
open Go.RowKit
set_option linter.unusedVariables false

def MnRes : Option (Nat × Nat) → Value
  | some (d, c) => .tuple #[.int .i64 d, .int .i64 c, .int .i64 0]
  | none => .tuple #[.int .i64 0, .int .i64 0, .int .i64 5]
def MBs (w : World) (g : Nat) (n : Int) (ad : Option Addr) (cp : Nat) (xs : List Int) : Prop := RowL w g 24 [.int .i64 n, .slice ad xs.length cp] ∧ IntsAt w.heap.size w ad xs
theorem isoAns_e {r : Option (List Nat)} {v : Value} {w : World} (h : IsoAns r v w) : ∃ (pa : Option Addr) (pl pc : Nat) (ee : Int), v = .tuple #[.slice pa pl pc, .int .i64 ee] ∧ ((r = none ∧ ee = 5) ∨ (r ≠ none ∧ ee = 0)) := by
  rcases h with ⟨hr, rfl⟩ | ⟨pq, ap, cpp, hr, rfl, _⟩
  · exact ⟨_, _, _, _, rfl, .inl ⟨hr, rfl⟩⟩
  · exact ⟨_, _, _, _, rfl, .inr ⟨by rw [hr]; simp, rfl⟩⟩
theorem isoF_nat {n1 n2 : Nat} {L1 L2 : List Nat} : isoF n1 n2 (ints L1) (ints L2) = isoFN n1 n2 L1 L2 := by
  unfold isoF isoFN
  rw [ints_len, ints_len, toN_ints_eq, toN_ints_eq]
/-- what same.restricted makes is the minor -/
theorem mnL_res {n d c left rk0 : Nat} {L : List Nat} (hρ : RkM n (rk L)) (hc : c < bit n) (hl : left = nand (bit n - 1) (d ||| c)) (h0 : rk L (left ||| c) = rk0 + rk L c) : those (elemsTo left n).length (resB (rk L) (elemsTo left n) c rk0) = mnL n d c L := by
  have hL : LeftIs n (d ||| c) left := by rw [hl]; exact left_nand n _
  have e1 := left_len hL n (Nat.le_refl _)
  rw [e1]
  unfold mnL basesM
  refine those_congr (fun s hs => ?_)
  rw [Bool.eq_iff_iff]
  unfold resB ofRank
  rw [decide_eq_true_eq, decide_eq_true_eq, left_img hL s]
  show sz s = rk0 ∧ rk L (spTo (d ||| c) s n ||| c) = rk0 + rk L c ↔ ((mnR n (d ||| c) c (rk L) s : Nat) : Int) = sz s ∧ ((mnR n (d ||| c) c (rk L) s : Nat) : Int) = ((mnR n (d ||| c) c (rk L) (bit (cnt (d ||| c) n) - 1) : Nat) : Int)
  rw [mnK_full]
  have hm := hρ.mono (orM_lt (spTo_lt (d ||| c) s n) hc) (sub_orM2 (spTo (d ||| c) s n) c)
  have hk : mnK n d c L = rk0 := by unfold mnK; rw [← hl, h0]; omega
  unfold mnR
  omega
theorem mnL_mat {n d c : Nat} {L : List Nat} (hρ : RkM n (rk L)) (hc : c < bit n) : MatL (cnt (d ||| c) n) (mnL n d c L) (mnK n d c L) := by
  have := (mnR_rk (gone := d ||| c) hρ hc).bases_mat
  rwa [mnK_full] at this

set_option maxRecDepth 100000 in
set_option maxHeartbeats 16000000 in
theorem c_sameMinor {B : Nat} {W : World} (u : Later B W) (n q : Nat) (L K : List Nat) (a b : Option Addr) (cap capb : Nat) (h1 : IntsAt B W a (ints L)) (h2 : IntsAt B W b (ints K)) (hlen1 : L.length ≤ 256) (hlen2 : K.length ≤ 256) (he1 : MatIs (n : Int) (ints L) 0) (he2 : MatIs (q : Int) (ints K) 0) :
    Calls Try.prog 5 #[.agg #[.int .i64 n, .slice a L.length cap], .agg #[.int .i64 q, .slice b K.length capb]] u.val (RetP B W (fun v w => ∃ r, FirstM (MnP n q L K) (bit n) r ∧ v = MnRes r)) := by
  have hn8 : n ≤ 8 := by have := he1.ok.1.1.2.1; omega
  have hq8 : q ≤ 8 := by have := he2.ok.1.1.2.1; omega
  have hbn := bit_le n hn8
  have hbq := bit_le q hq8
  have hs1 : (u.val.alloc (.cells #[.int .i64 n, .slice a L.length cap] 24)).heap.size = u.val.heap.size + 1 := by simp
  have HA : Hid (RowL ((u.val.alloc (.cells #[.int .i64 n, .slice a L.length cap] 24)).alloc (.cells #[.int .i64 q, .slice b K.length capb] 24)) u.val.heap.size 24 [.int .i64 n, .slice a L.length cap]) := Lib.hid ((RowL.new _ _ _).keep ((Below.refl _ _).alloc (Nat.le_refl _) _))
  have HB2 : Hid (RowL ((u.val.alloc (.cells #[.int .i64 n, .slice a L.length cap] 24)).alloc (.cells #[.int .i64 q, .slice b K.length capb] 24)) (u.val.heap.size + 1) 24 [.int .i64 q, .slice b K.length capb]) := Lib.hid (by
    have := RowL.new (u.val.alloc (.cells #[.int .i64 n, .slice a L.length cap] 24)) 24 [.int .i64 q, .slice b K.length capb]
    rwa [hs1] at this)
  have HVY : Hid (∀ v : Later ((u.val.alloc (.cells #[.int .i64 n, .slice a L.length cap] 24)).alloc (.cells #[.int .i64 q, .slice b K.length capb] 24)).heap.size ((u.val.alloc (.cells #[.int .i64 n, .slice a L.length cap] 24)).alloc (.cells #[.int .i64 q, .slice b K.length capb] 24)), ∃ w : Later B W, w.val = v.val) := Lib.hid (fun v => ⟨((u.alloc _).alloc _).up v, rfl⟩)
  have I1 : Hid (IntsAt ((u.val.alloc (.cells #[.int .i64 n, .slice a L.length cap] 24)).alloc (.cells #[.int .i64 q, .slice b K.length capb] 24)).heap.size ((u.val.alloc (.cells #[.int .i64 n, .slice a L.length cap] 24)).alloc (.cells #[.int .i64 q, .slice b K.length capb] 24)) a (ints L)) := Lib.hid (h1.to ((u.alloc _).alloc _))
  have I2 : Hid (IntsAt ((u.val.alloc (.cells #[.int .i64 n, .slice a L.length cap] 24)).alloc (.cells #[.int .i64 q, .slice b K.length capb] 24)).heap.size ((u.val.alloc (.cells #[.int .i64 n, .slice a L.length cap] 24)).alloc (.cells #[.int .i64 q, .slice b K.length capb] 24)) b (ints K)) := Lib.hid (h2.to ((u.alloc _).alloc _))
  obtain ⟨en, hen⟩ : ∃ en : Int → List Int → Int, ∀ n l, MatIs n l (en n l) := ⟨fun n l => Classical.choose (MatIs.ex n l), fun n l => Classical.choose_spec (MatIs.ex n l)⟩
  have E1 : en n (ints L) = 0 := (hen n (ints L)).2.2 he1.ok.1 he1.ok.2
  have E2 : en q (ints K) = 0 := (hen q (ints K)).2.2 he2.ok.1 he2.ok.2
  have KC : Hid (∀ (v : Later ((u.val.alloc (.cells #[.int .i64 n, .slice a L.length cap] 24)).alloc (.cells #[.int .i64 q, .slice b K.length capb] 24)).heap.size ((u.val.alloc (.cells #[.int .i64 n, .slice a L.length cap] 24)).alloc (.cells #[.int .i64 q, .slice b K.length capb] 24))) (n' : Int) (l' : List Nat) (a' : Option Addr) (c' : Nat), IntsAt ((u.val.alloc (.cells #[.int .i64 n, .slice a L.length cap] 24)).alloc (.cells #[.int .i64 q, .slice b K.length capb] 24)).heap.size ((u.val.alloc (.cells #[.int .i64 n, .slice a L.length cap] 24)).alloc (.cells #[.int .i64 q, .slice b K.length capb] 24)) a' (ints l') → l'.length ≤ 256 → Calls Try.prog 22 #[.agg #[.int .i64 n', .slice a' l'.length c']] v.val (Ret ((u.val.alloc (.cells #[.int .i64 n, .slice a L.length cap] 24)).alloc (.cells #[.int .i64 q, .slice b K.length capb] 24)).heap.size ((u.val.alloc (.cells #[.int .i64 n, .slice a L.length cap] 24)).alloc (.cells #[.int .i64 q, .slice b K.length capb] 24)) (.int .i64 (en n' (ints l'))))) := Lib.hid (fun v n' l' a' c' h' hl => by
    have h3 := c_axCheck v n' (ints l') a' c' (en n' (ints l')) h' (by rw [ints_len]; omega) (hen n' (ints l'))
    rwa [ints_len] at h3)
  have KX : Hid (∀ v : Later ((u.val.alloc (.cells #[.int .i64 n, .slice a L.length cap] 24)).alloc (.cells #[.int .i64 q, .slice b K.length capb] 24)).heap.size ((u.val.alloc (.cells #[.int .i64 n, .slice a L.length cap] 24)).alloc (.cells #[.int .i64 q, .slice b K.length capb] 24)), Calls Try.prog 23 #[.agg #[.int .i64 n, .slice a L.length cap]] v.val (RetP v.val.heap.size v.val (fun x w => ∃ g c, x = .slice (some ⟨g, 0, none⟩) (bit n) c ∧ ITab w g (bit n) (fun j => (rk L j : Int))))) := Lib.hid (fun v => by
    have h3 := c_sameRanks (Later.self v.val) n hn8 (ints L) a cap (I1.out.to v) (by rw [ints_len]; omega) he1
    rwa [ints_len, toN_ints_eq] at h3)
  have KY : Hid (∀ v : Later ((u.val.alloc (.cells #[.int .i64 n, .slice a L.length cap] 24)).alloc (.cells #[.int .i64 q, .slice b K.length capb] 24)).heap.size ((u.val.alloc (.cells #[.int .i64 n, .slice a L.length cap] 24)).alloc (.cells #[.int .i64 q, .slice b K.length capb] 24)), Calls Try.prog 23 #[.agg #[.int .i64 q, .slice b K.length capb]] v.val (RetP v.val.heap.size v.val (fun x w => ∃ g c, x = .slice (some ⟨g, 0, none⟩) (bit q) c ∧ ITab w g (bit q) (fun j => (rk K j : Int))))) := Lib.hid (fun v => by
    have h3 := c_sameRanks (Later.self v.val) q hq8 (ints K) b capb (I2.out.to v) (by rw [ints_len]; omega) he2
    rwa [ints_len, toN_ints_eq] at h3)
  have HRk : Hid (RkM n (rk L)) := Lib.hid (by have := rkM_of_mat he1.ok.1 he1.ok.2; rwa [toN_ints_eq] at this)
  have HM2 := Lib.hid he2
  clear h1 h2 he1 he2 hs1 hen
  go_enter Try.func5, Try.ntmps5
  go_upto_region 1 with fail
  generalize ((u.val.alloc (.cells #[.int .i64 n, .slice a L.length cap] 24)).alloc (.cells #[.int .i64 q, .slice b K.length capb] 24)) = Y at *
  generalize u.val.heap.size = g at *
  obtain ⟨y, hy⟩ : ∃ y : Later Y.heap.size Y, y.val = Y := ⟨Later.self _, rfl⟩
  have q0 : ∀ w : Later Y.heap.size Y, w.val.cell? ⟨g, 0, none⟩ = some (.int .i64 n) := fun w => (HA.out.keep w.below).cell rfl
  have q1 : ∀ w : Later Y.heap.size Y, w.val.cell? ⟨g, 1, none⟩ = some (.slice a L.length cap) := fun w => (HA.out.keep w.below).cell rfl
  have q2 : ∀ w : Later Y.heap.size Y, w.val.cell? ⟨g + 1, 0, none⟩ = some (.int .i64 q) := fun w => (HB2.out.keep w.below).cell rfl
  have q3 : ∀ w : Later Y.heap.size Y, w.val.cell? ⟨g + 1, 1, none⟩ = some (.slice b K.length capb) := fun w => (HB2.out.keep w.below).cell rfl
  rw [← hy]
  clear hy
  refine wp_region_later y (by kernel_rfl) (by kernel_rfl) (fun _ => ?_)
  repeat (first | go_big_quiet_step ((go_at_call 22; exact KC.out _ _ _ _ _ (by first | exact I1.out | exact I2.out) (by first | exact hlen1 | exact hlen2))) | (refine wpQuiet_step (fun K hK => ?_); go_simp; refine ⟨_, fun _ => rfl, ?_⟩; refine hK _ ?_; clear hK K))
  refine wpQuiet_nil ?_
  intro y
  rw [E1, E2]
  clear KC HA HB2 u E1 E2 en
  have z0 : ((0 : Int) != 0) = false := rfl
  have p0 := q0 y
  have p1 := q1 y
  generalize hg' : g + 1 = g' at *
  clear hg'
  go_upto_region 7 with (first | (go_at_call 23; (with_reducible refine (KX.out y).mono ?_); rintro e _ ⟨_, rfl, ⟨gx, cx, rfl, hTx⟩, v1, rfl⟩) | fail)
  have HTx := Lib.hid hTx
  have HV1 : Hid (∀ x : Later v1.val.heap.size v1.val, ∃ w : Later Y.heap.size Y, w.val = x.val) := Lib.hid (fun x => ⟨y.up (v1.up x), rfl⟩)
  clear hTx KX p0 p1
  have bcq := bit_cast q
  have wq := IntWalk.i64_in (bit q : Int) (by omega)
  have wq1 : IntKind.i64.wrap ((bit q : Int) - 1) = ((bit q - 1 : Nat) : Int) := by rw [IntWalk.i64_in _ (by omega)]; omega
  have KY1 : Hid (∀ x : Later v1.val.heap.size v1.val, Calls Try.prog 23 #[.agg #[.int .i64 q, .slice b K.length capb]] x.val (RetP x.val.heap.size x.val (fun x w => ∃ g c, x = .slice (some ⟨g, 0, none⟩) (bit q) c ∧ ITab w g (bit q) (fun j => (rk K j : Int))))) := Lib.hid (fun x => by
    obtain ⟨w, hw⟩ := HV1.out x
    have := KY.out w
    rwa [hw] at this)
  have s0 : ∀ x : Later v1.val.heap.size v1.val, x.val.cell? ⟨g', 0, none⟩ = some (.int .i64 q) ∧ x.val.cell? ⟨g', 1, none⟩ = some (.slice b K.length capb) := fun x => by
    obtain ⟨w, hw⟩ := HV1.out x
    rw [← hw]; exact ⟨q2 w, q3 w⟩
  have s00 := s0 (Later.self v1.val)
  have KY2 : Hid (Calls Try.prog 23 #[.agg #[.int .i64 q, .slice b K.length capb]] v1.val.drew (RetP v1.val.drew.heap.size v1.val.drew (fun x w => ∃ g c, x = .slice (some ⟨g, 0, none⟩) (bit q) c ∧ ITab w g (bit q) (fun j => (rk K j : Int))))) := Lib.hid (KY1.out (Later.self v1.val).drew)
  have s01 := s0 (Later.self v1.val).drew
  dsimp only [Later.self] at s00
  dsimp only [Later.self, Later.drew, Later.to] at s01
  obtain ⟨rK, hrKe⟩ : ∃ r, r = rk K (bit q - 1) := ⟨_, rfl⟩
  have hrK : rK ≤ 8 := by rw [hrKe]; exact Nat.le_trans (rk_le _ _) (sz_le _)
  have HrK := Lib.hid hrKe.symm
  have hbq3 : bit q - 1 < bit q := by omega
  go_cut [10] from 31 to 38 (fun x_ w_ => x_ = .int .i64 (rK : Nat) ∧ ∃ x : Later v1.val.heap.size v1.val, w_ = x.val)
  case first =>
    as_aux_lemma =>
    go_region_law (first | (go_simp; go_at_call 23; (with_reducible refine (KY2.out).mono ?_); rintro e _ ⟨_, rfl, ⟨gk, ck, rfl, hTk⟩, v2, rfl⟩; have tk : v2.val.cell? ⟨gk, bit q - 1, none⟩ = some (.int .i64 (rk K (bit q - 1) : Int)) := hTk.cell (by omega); have s2 := s0 ((Later.self v1.val).drew.up v2); dsimp only [Later.self, Later.drew, Later.up, Later.to] at s2))
    all_goals go_wp2
    all_goals go_meet
    all_goals exact ⟨by rw [hrKe], (Later.self v1.val).drew.up v2, rfl⟩
  case rest => as_aux_lemma =>
  clear s0 s00 s01 KY2 hrKe
  obtain ⟨rfl, v2, rfl⟩ := hcut
  have HTx2 := Lib.hid (HTx.out.keep v2.below)
  obtain ⟨C, hC⟩ : ∃ C, C = v2.val := ⟨_, rfl⟩
  have HCY : Hid (∀ x : Later C.heap.size C, ∃ w : Later Y.heap.size Y, w.val = x.val) := Lib.hid (fun x => by
    subst hC
    exact HV1.out (v2.up x))
  rw [← hC] at HTx2 ⊢
  have hgx := HTx2.out.lt
  obtain ⟨x, hx⟩ : ∃ x : Later C.heap.size C, x.val = C := ⟨Later.self _, rfl⟩
  rw [← hx]
  clear hx
  have HKC := Lib.hid hC
  clear hC HTx KY KY1
  have HVC : Hid (∀ x : Later C.heap.size C, ∃ w : Later B W, w.val = x.val) := Lib.hid (fun x => by
    obtain ⟨w, hw⟩ := HCY.out x
    rw [← hw]; exact HVY.out w)
  have Q0 : ∀ x : Later C.heap.size C, x.val.cell? ⟨g, 0, none⟩ = some (.int .i64 n) := fun x => by
    obtain ⟨w, hw⟩ := HCY.out x
    rw [← hw]; exact q0 w
  have Q2 : ∀ x : Later C.heap.size C, x.val.cell? ⟨g', 0, none⟩ = some (.int .i64 q) := fun x => by
    obtain ⟨w, hw⟩ := HCY.out x
    rw [← hw]; exact q2 w
  have Q3 : ∀ x : Later C.heap.size C, x.val.cell? ⟨g', 1, none⟩ = some (.slice b K.length capb) := fun x => by
    obtain ⟨w, hw⟩ := HCY.out x
    rw [← hw]; exact q3 w
  have HI2 : Hid (∀ x : Later C.heap.size C, IntsAt x.val.heap.size x.val b (ints K)) := Lib.hid (fun x => by
    obtain ⟨w, hw⟩ := HCY.out x
    rw [← hw]; exact I2.out.to w)
  have bcn := bit_cast n
  have wn := IntWalk.i64_in (bit n : Int) (by omega)
  have wn1 : IntKind.i64.wrap ((bit n : Int) - 1) = ((bit n - 1 : Nat) : Int) := by rw [IntWalk.i64_in _ (by omega)]; omega
  have Q0x := Q0 x
  go_wp2
  go_loopw [42] (fun dv wr => ∃ (d : Nat) (x : Later C.heap.size C), d ≤ bit n ∧ dv = .int .i64 d ∧ wr = x.val ∧ Hid (∀ d' c', d' < d → c' < bit n → ¬ MnP n q L K d' c')) (fun dv _ => bit n - (intOf dv).toNat)
  case atStart => exact ⟨0, x, by omega, by first | rfl | go_num, rfl, Lib.hid (fun d' c' h => by omega)⟩
  case round =>
    clear Q0x HKC x
    obtain ⟨d, x, hd, rfl, rfl, HD⟩ := hrel
    have Q0x := Q0 x
    by_cases hdl : d < bit n
    case neg =>
      have hde : d = bit n := by omega
      have HF : Hid (FirstM (MnP n q L K) (bit n) none) := Lib.hid (.inl ⟨rfl, fun d' c' h1 h2 => HD.out d' c' (by omega) h2⟩)
      subst hde
      go_wp2
      go_ret3
      exact RetP.of (HVC.out x) ⟨none, HF.out, rfl⟩
    go_wp2
    go_loopw [48] (fun cv wr => ∃ (c : Nat) (x : Later C.heap.size C), c ≤ bit n ∧ cv = .int .i64 c ∧ wr = x.val ∧ Hid (∀ c', c' < c → ¬ MnP n q L K d c')) (fun cv _ => bit n - (intOf cv).toNat)
    case atStart => exact ⟨0, x, by omega, by first | rfl | go_num, rfl, Lib.hid (fun c' h => by omega)⟩
    case round =>
      clear Q0x x
      obtain ⟨c, x, hc, rfl, rfl, HC⟩ := hrel
      have Q0x := Q0 x
      by_cases hcl : c < bit n
      case neg =>
        have hce : c = bit n := by omega
        have HN : Hid (∀ d' c', d' < d + 1 → c' < bit n → ¬ MnP n q L K d' c') := Lib.hid (fun d' c' h1 h2 => by
          by_cases e : d' = d
          · subst e; exact HC.out c' (by omega)
          · exact HD.out d' c' (by omega) h2)
        go_wp2
        go_roundw
        case rel => exact ⟨d + 1, x, by omega, by go_num, by first | rfl | trivial, HN⟩
        case measure => simp [intOf]; omega
      have HN : Hid (¬ MnP n q L K d c → ∀ c', c' < c + 1 → ¬ MnP n q L K d c') := Lib.hid (fun h c' hc' => by
        by_cases e : c' = c
        · subst e; exact h
        · exact HC.out c' (by omega))
      have hdc : d ||| c < bit n := or_lt_bit hdl hcl
      have hll : nand (bit n - 1) (d ||| c) < bit n := nand_all_lt n _
      have hlc : nand (bit n - 1) (d ||| c) ||| c < bit n := or_lt_bit hll hcl
      have hsz : sz (nand (bit n - 1) (d ||| c)) = cnt (d ||| c) n := by
        have k1 := cnt_sz (gone := d ||| c) hn8 hdc
        have k2 := sz_nand_all (m := n) (s := d ||| c) hn8 hdc
        omega
      have o1 := i64_or d c (by omega) (by omega)
      have an := i64_andNot (bit n - 1) (d ||| c) (by omega) (by omega)
      have o2 := i64_or (nand (bit n - 1) (d ||| c)) c (by omega) (by omega)
      have a1 := i64_and c d (by omega) (by omega)
      have HMn : Hid (MnP n q L K d c ↔ (c &&& d = 0 ∧ cnt (d ||| c) n = q ∧ rk L (nand (bit n - 1) (d ||| c) ||| c) - rk L c = rK ∧ (mnL n d c L).length = K.length ∧ isoFN q q (mnL n d c L) K ≠ none)) := Lib.hid (by unfold MnP mnK; rw [HrK.out])
      have hrl : rk L (nand (bit n - 1) (d ||| c) ||| c) ≤ 8 := Nat.le_trans (rk_le _ _) (sz_le _)
      have hrc : rk L c ≤ 8 := Nat.le_trans (rk_le _ _) (sz_le _)
      have hrm := HRk.out.mono hlc (sub_orM2 (nand (bit n - 1) (d ||| c)) c)
      have w1 := IntWalk.i64_in ((rk L (nand (bit n - 1) (d ||| c) ||| c) : Int) - (rk L c : Int)) (by omega)
      have t1 : ∀ y : Later x.val.heap.size x.val, y.val.cell? ⟨gx, nand (bit n - 1) (d ||| c) ||| c, none⟩ = some (.int .i64 (rk L (nand (bit n - 1) (d ||| c) ||| c) : Int)) := fun y => (HTx2.out.keep_at (x.up y).below hgx).cell hlc
      have t2 : ∀ y : Later x.val.heap.size x.val, y.val.cell? ⟨gx, c, none⟩ = some (.int .i64 (rk L c : Int)) := fun y => (HTx2.out.keep_at (x.up y).below hgx).cell hcl
      have u2 : ∀ y : Later x.val.heap.size x.val, y.val.cell? ⟨g', 0, none⟩ = some (.int .i64 q) := fun y => Q2 (x.up y)
      have KO : Hid (∀ y : Later x.val.heap.size x.val, Calls Try.prog 24 #[.int .i64 (nand (bit n - 1) (d ||| c) : Nat)] y.val (Ret x.val.heap.size x.val (.int .i64 (cnt (d ||| c) n : Nat)))) := Lib.hid (fun y => by
        have h3 := c_sameOnes y (nand (bit n - 1) (d ||| c)) (by omega)
        rwa [hsz] at h3)
      have HRes : Hid (rk L (nand (bit n - 1) (d ||| c) ||| c) - rk L c = rK → cnt (d ||| c) n = q → ∀ y : Later C.heap.size C, Calls Try.prog 25 #[.int .i64 n, .slice (some ⟨gx, 0, none⟩) (bit n) cx, .int .i64 (nand (bit n - 1) (d ||| c) : Nat), .int .i64 c] y.val (RetP C.heap.size C (MatO C.heap.size (q : Nat) (ints (mnL n d c L))))) := Lib.hid (fun hr hcn y => by
        have hr0 : rk L (nand (bit n - 1) (d ||| c) ||| c) = rK + rk L c := by omega
        have h3 := c_restricted y n (nand (bit n - 1) (d ||| c)) c rK gx cx hn8 hll hcl (rk L) hgx HTx2.out (fun s _ => Nat.le_trans (rk_le _ _) (sz_le _)) hr0
        rw [mnL_res HRk.out hcl rfl hr0, left_len (left_nand n (d ||| c)) n (Nat.le_refl _), hcn] at h3
        exact h3)
      have HMl : Hid (cnt (d ||| c) n = q → MatIs (q : Int) (ints (mnL n d c L)) 0 ∧ (mnL n d c L).length ≤ 256) := Lib.hid (fun hcn => by
        have h3 := mnL_mat (d := d) HRk.out hcl
        rw [hcn] at h3
        refine ⟨h3.is, ?_⟩
        rw [h3.rise]
        have h4 := thoseTo_len (memB (mnL n d c L)) (bit q)
        exact Nat.le_trans h4 hbq.2)
      clear hsz hll
      generalize mnL n d c L = XL at *
      generalize cnt (d ||| c) n = cn at *
      generalize hlq : nand (bit n - 1) (d ||| c) = lq at *
      clear hlq
      generalize d ||| c = dc at *
      generalize hlcq : lq ||| c = lc at *
      clear hlcq
      generalize rk L lc = ra at *
      generalize hrcc : rk L c = rc at *
      clear hrcc
      generalize hcdq : c &&& d = cd at *
      clear hcdq
      obtain ⟨y, hy⟩ : ∃ y : Later x.val.heap.size x.val, y.val = x.val := ⟨Later.self _, rfl⟩
      go_upto_region 15 with fail
      rw [← hy]
      clear hy Q0x
      by_cases h1 : cd = 0
      case neg =>
        have d1 : ((cd : Int) != 0) = true := by rw [bne_iff_ne]; omega
        have HS := Lib.hid (HN.out (fun h => h1 (HMn.out.1 h).1))
        clear HN HMn HRes HMl h1
        refine wp_region_later y (by kernel_rfl) (by kernel_rfl) (fun _ => ?_)
        repeat (first | go_big_quiet_step (((go_at_call 24; exact (KO.out _)))) | (refine wpQuiet_step (fun K hK => ?_); go_simp; refine ⟨_, fun _ => rfl, ?_⟩; refine hK _ ?_; clear hK K))
        refine wpQuiet_nil ?_
        intro y
        go_wp2
        go_roundw
        case rel => exact ⟨c + 1, x.up y, by omega, by go_num, by first | rfl | trivial, HS⟩
        case measure => simp [intOf]; omega
      subst h1
      have d1 : (((0 : Nat) : Int) != 0) = false := rfl
      by_cases h2 : cn = q
      case neg =>
        have d2 : ((cn : Int) != (q : Int)) = true := by rw [bne_iff_ne]; omega
        have d2' : (cn != q) = true := by rw [bne_iff_ne]; exact h2
        have HS := Lib.hid (HN.out (fun h => h2 (HMn.out.1 h).2.1))
        clear HN HMn HRes HMl h2
        refine wp_region_later y (by kernel_rfl) (by kernel_rfl) (fun _ => ?_)
        repeat (first | go_big_quiet_step (((go_at_call 24; exact (KO.out _)))) | (refine wpQuiet_step (fun K hK => ?_); go_simp; refine ⟨_, fun _ => rfl, ?_⟩; refine hK _ ?_; clear hK K))
        refine wpQuiet_nil ?_
        intro y
        go_wp2
        go_roundw
        case rel => exact ⟨c + 1, x.up y, by omega, by go_num, by first | rfl | trivial, HS⟩
        case measure => simp [intOf]; omega
      subst h2
      have d2 : ((cn : Int) != (cn : Int)) = false := by simp
      have d2' : (cn != cn) = false := by simp
      by_cases h3 : ra - rc = rK
      case neg =>
        have d3 : ((ra : Int) - (rc : Int) != (rK : Int)) = true := by rw [bne_iff_ne]; omega
        have HS := Lib.hid (HN.out (fun h => h3 (HMn.out.1 h).2.2.1))
        clear HN HMn HRes HMl h3
        refine wp_region_later y (by kernel_rfl) (by kernel_rfl) (fun _ => ?_)
        repeat (first | go_big_quiet_step (((go_at_call 24; exact (KO.out _)))) | (refine wpQuiet_step (fun K hK => ?_); go_simp; refine ⟨_, fun _ => rfl, ?_⟩; refine hK _ ?_; clear hK K))
        refine wpQuiet_nil ?_
        intro y
        go_wp2
        go_roundw
        case rel => exact ⟨c + 1, x.up y, by omega, by go_num, by first | rfl | trivial, HS⟩
        case measure => simp [intOf]; omega
      have d3 : ((ra : Int) - (rc : Int) != (rK : Int)) = false := by rw [bne_eq_false_iff_eq]; omega
      have HRe2 := Lib.hid (HRes.out h3 rfl)
      have HMk := Lib.hid (HMl.out rfl)
      clear HRes HMl
      have HMn2 : Hid (MnP n cn L K d c ↔ (XL.length = K.length ∧ isoFN cn cn XL K ≠ none)) := Lib.hid (by
        rw [HMn.out]
        exact ⟨fun h => ⟨h.2.2.2.1, h.2.2.2.2⟩, fun h => ⟨rfl, rfl, h3, h.1, h.2⟩⟩)
      clear HMn h3 hrm
      refine wp_region_later y (by kernel_rfl) (by kernel_rfl) (fun _ => ?_)
      repeat (first | go_big_quiet_step (((go_at_call 24; exact (KO.out _)))) | (refine wpQuiet_step (fun K hK => ?_); go_simp; refine ⟨_, fun _ => rfl, ?_⟩; refine hK _ ?_; clear hK K))
      refine wpQuiet_nil ?_
      intro y
      clear KO t1 t2 w1 a1 an o1 o2 hlc hdc
      have HRy : Hid (Calls Try.prog 25 #[.int .i64 n, .slice (some ⟨gx, 0, none⟩) (bit n) cx, .int .i64 lq, .int .i64 c] y.val (RetP C.heap.size C (MatO C.heap.size (cn : Nat) (ints XL)))) := Lib.hid (HRe2.out (x.up y))
      have Q0y : y.val.cell? ⟨g, 0, none⟩ = some (.int .i64 n) := Q0 (x.up y)
      clear HRe2 Q0
      go_upto_region 17 with (first | (go_at_call 25; (with_reducible refine (HRy.out).mono ?_); rintro e _ ⟨_, rfl, ⟨ad, cp, rfl, hO⟩, v3, rfl⟩) | fail)
      rw [ints_len]
      have N0 : Hid (MBs (v3.val.alloc (.cells #[.int .i64 cn, .slice ad (ints XL).length cp] 24)) v3.val.heap.size cn ad cp (ints XL)) := Lib.hid ⟨RowL.new _ _ _, (hO.reads).to ((Later.self v3.val).alloc _)⟩
      rw [ints_len] at N0
      obtain ⟨z, hz⟩ : ∃ z : Later C.heap.size C, z.val = (v3.val.alloc (.cells #[.int .i64 cn, .slice ad XL.length cp] 24)) := ⟨v3.alloc _, rfl⟩
      rw [← hz] at N0 ⊢
      generalize v3.val.heap.size = gz at *
      clear hz hO HRy Q0y d1 d2 d2' d3
      have r1 : z.val.cell? ⟨gz, 1, none⟩ = some (.slice ad XL.length cp) := by
        have := N0.out.1.cell (i := 1) rfl
        rwa [ints_len] at this
      have r3 : z.val.cell? ⟨g', 1, none⟩ = some (.slice b K.length capb) := Q3 z
      by_cases h4 : XL.length = K.length
      case neg =>
        have d4 : ((XL.length : Int) != (K.length : Int)) = true := by rw [bne_iff_ne]; omega
        have HS := Lib.hid (HN.out (fun h => h4 (HMn2.out.1 h).1))
        clear HN HMn2 HMk h4
        go_wp2
        go_roundw
        case rel => exact ⟨c + 1, z, by omega, by go_num, by first | rfl | trivial, HS⟩
        case measure => simp [intOf]; omega
      have d4 : ((XL.length : Int) != (K.length : Int)) = false := by rw [bne_eq_false_iff_eq]; omega
      have r0 : z.val.cell? ⟨gz, 0, none⟩ = some (.int .i64 cn) := N0.out.1.cell rfl
      have r2 : z.val.cell? ⟨g', 0, none⟩ = some (.int .i64 cn) := Q2 z
      have KI : Hid (Calls Try.prog 16 #[.agg #[.int .i64 cn, .slice ad XL.length cp], .agg #[.int .i64 cn, .slice b K.length capb]] z.val (RetP z.val.heap.size z.val (IsoAns (isoFN cn cn XL K)))) := Lib.hid (by
        have h3 := c_sameIso (Later.self z.val) cn cn (ints XL) (ints K) ad b cp capb N0.out.2 (HI2.out z) (by rw [ints_len]; have := HMk.out.2; omega) (by rw [ints_len]; omega) HMk.out.1 HM2.out
        rwa [isoF_nat, ints_len, ints_len] at h3)
      have HMn3 : Hid (MnP n cn L K d c ↔ isoFN cn cn XL K ≠ none) := Lib.hid (by
        rw [HMn2.out]
        exact ⟨fun h => h.2, fun h => ⟨h4, h⟩⟩)
      clear HMn2 HMk h4 N0
      generalize isoFN cn cn XL K = rr at *
      go_upto_region 19 with (first | (go_at_call 16; (with_reducible refine (KI.out).mono ?_); rintro e _ ⟨_, rfl, hIs, v4, rfl⟩; obtain ⟨pa, pl, pc, ee, rfl, hee⟩ := isoAns_e hIs) | fail)
      rcases hee with ⟨hr, rfl⟩ | ⟨hr, rfl⟩
      · have HS := Lib.hid (HN.out (fun h => HMn3.out.1 h hr))
        clear HN HMn3 KI hr
        go_wp2
        go_roundw
        case rel => exact ⟨c + 1, z.up v4, by omega, by go_num, by first | rfl | trivial, HS⟩
        case measure => simp [intOf]; omega
      · have HF : Hid (FirstM (MnP n cn L K) (bit n) (some (d, c))) := Lib.hid (.inr ⟨d, c, rfl, hdl, hcl, HMn3.out.2 hr, HD.out, HC.out⟩)
        clear HN HMn3 KI hr
        go_wp2
        go_ret3
        exact RetP.of (HVC.out (z.up v4)) ⟨some (d, c), HF.out, rfl⟩
end Go.Proofs.Ytjenaglgloaejaa
