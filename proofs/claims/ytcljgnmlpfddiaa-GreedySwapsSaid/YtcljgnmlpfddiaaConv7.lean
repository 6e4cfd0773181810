/-
  convex.Orders, the walk.
-/
import Derived.Test.YtcljgnmlpfddiaaConv6
namespace Go.Proofs.Ytcljgnmlpfddiaa
open Go.RowKit
set_option linter.unusedVariables false

theorem sumTo_bound {f : Nat → Nat} {n b : Nat} (h : ∀ i, i < n → f i ≤ b) : sumTo f n ≤ n * b := by
  induction n with
  | zero => simp [sumTo]
  | succ n ih =>
    simp only [sumTo]
    have := ih (fun i hi => h i (by omega))
    have := h n (by omega)
    rw [Nat.add_mul]; omega
theorem dn_bound {l : List Int} {m a : Nat} (hm : m ≤ 8) (f : Nat) : ∀ b, b < bit m → dnF l m (bit m) f a b ≤ 8 ^ f := by
  induction f with
  | zero => intro b _; show (if a = b then 1 else 0) ≤ 1; split <;> omega
  | succ f ih =>
    intro b hb
    have hbb := bit_le m hm
    by_cases hbl : (b : Int) ∈ l
    · rw [dn_step hm hb hbl]
      have h1 : sumTo (fun i => if b.testBit i = true ∧ ((b - bit i : Nat) : Int) ∈ l then dnF l m (bit m) f a (b - bit i) else 0) m ≤ m * 8 ^ f := sumTo_bound (fun i hi => by
        show (if _ then _ else _ : Nat) ≤ _
        split
        · exact ih _ (by omega)
        · exact Nat.zero_le _)
      have h2 : m * 8 ^ f ≤ 8 * 8 ^ f := Nat.mul_le_mul_right _ hm
      rw [Nat.pow_succ]; omega
    · have hz : dnF l m (bit m) (f + 1) a b = 0 := sumTo_none (fun c _ => by
        have : edges l m c b = 0 := sumTo_none (fun i _ => by rw [if_neg]; rintro ⟨_, _, _, h⟩; exact hbl h)
        rw [this, Nat.mul_zero])
      rw [hz]; exact Nat.zero_le _
theorem ways_bound {n : Int} {m : Nat} {l : List Int} (hnm : n = m) (hf : isFam n l) (h0 : (0 : Int) ∈ l) {k j : Nat} (hk : k ≤ l.length) (hj : j < bit m) : waysTo l k j ≤ 16777216 := by
  have hm : m ≤ 8 := by have := hf.2.1; omega
  rw [waysTo_is hnm hf h0 k hk j hj]
  split
  · omega
  · split
    · exact Nat.le_trans (dn_bound hm _ _ hj) (pow8 (by have : cnt m j ≤ m := Nat.sub_le _ _; omega))
    · omega
theorem part_bound {n : Int} {m : Nat} {l : List Int} (hnm : n = m) (hf : isFam n l) (h0 : (0 : Int) ∈ l) {k s : Nat} (t : Nat) (hk : k ≤ l.length) (hs : s < bit m) : partTo l (waysTo l k) s t ≤ 134217728 := by
  have : partTo l (waysTo l k) s t ≤ 8 * 16777216 := sumTo_bound (fun i hi => by
    show (if _ then _ else _ : Nat) ≤ _
    split
    · exact ways_bound hnm hf h0 hk (by omega)
    · exact Nat.zero_le _)
  omega

theorem mk_ints (n : Nat) (h : n ≤ 1048576) : ∀ w : World, (Instr.makeSlice 53 (.int .i64 (n : Int)) (.int .i64 (n : Int))).run Try.prog w = .ok (.slice (some ⟨w.heap.size, 0, none⟩) n n) (w.alloc (.cells (madeCells #[.int .i64 0] n) 3)) :=
  fun w => run_make_row' (P := Try.prog) 53 3 (.int .i64 0) 8 Try.underlying53 info_int rfl .i64 .i64 n (by omega) (by omega) w

/-- a table of numbers in block g -/
def Tab (w : World) (g n : Nat) (A : Nat → Nat) : Prop := w.rowIs g 3 n (fun j => .int .i64 (A j : Int))
theorem Tab.keep {w w' : World} {g n : Nat} {A : Nat → Nat} (h : Tab w g n A) (hb : Below w.heap.size w w') : Tab w' g n A := World.rowIs.of_block h (hb.block g (World.rowIs.lt h))
theorem Tab.cell {w : World} {g n : Nat} {A : Nat → Nat} (h : Tab w g n A) {i : Nat} (hi : i < n) : w.cell? ⟨g, i, none⟩ = some (.int .i64 (A i : Int)) := World.rowIs.cell h hi
theorem Tab.frozen {w : World} {g n : Nat} {A : Nat → Nat} (h : Tab w g n A) (i : Nat) : w.frozen? ⟨g, i, none⟩ = false := World.rowIs.frozen h i
theorem Tab.set {w : World} {g n : Nat} {A : Nat → Nat} (h : Tab w g n A) (i : Nat) (v : Nat) {A' : Nat → Nat} (e : ∀ j, j < n → A' j = if j = i then v else A j) : Tab (w.setCell ⟨g, i, none⟩ (.int .i64 (v : Int))) g n A' :=
  World.rowIs.congr (World.rowIs.set h i _) (fun j hj => by
    show (if j = i then _ else _ : Value) = _
    rw [e j hj]; split <;> rfl)
theorem Tab.congr {w : World} {g n : Nat} {A A' : Nat → Nat} (h : Tab w g n A) (e : ∀ j, j < n → A j = A' j) : Tab w g n A' := World.rowIs.congr h (fun j hj => by show Value.int _ _ = Value.int _ _; rw [e j hj])
theorem Tab.made (w : World) (n : Nat) : Tab (w.alloc (.cells (madeCells #[.int .i64 0] n) 3)) w.heap.size n (fun _ => 0) := World.rowIs_made w (.int .i64 0) n 3

set_option maxRecDepth 100000 in
set_option maxHeartbeats 2000000 in
theorem c_orders {B : Nat} {W : World} (u : Later B W) (n : Int) (l : List Int) (a : Option Addr) (cap : Nat) (e : Int) (h : IntsAt B W a l) (hlen : l.length ≤ 4611686018427387904) (he : ChkIs n l e) :
    Calls Try.prog 52 #[.int .i64 n, .slice a l.length cap] u.val (Ret B W (.tuple #[.int .i64 (if e = 0 then ((tak l n.toNat n.toNat 0).1 : Int) else 0), .int .i64 e])) := by
  have HC := Lib.hid (c_convexCheck u n l a cap e h hlen he)
  rcases ieq e 0 with ⟨g, d1, d2⟩ | ⟨g, d1, d2⟩
  case inr =>
    rw [if_neg g]
    clear h he g
    go_enter Try.func52, Try.ntmps52
    go_wp2_with (go_at_call 54; refine HC.out.mono ?_; rintro e _ ⟨rfl, u1, rfl⟩)
    go_ret2
    exact Ret.mk _ rfl
  subst g
  rw [if_pos rfl]
  obtain ⟨hf, hg⟩ := Chk.zero he
  obtain ⟨m, rfl⟩ := Int.eq_ofNat_of_zero_le hf.1
  have hm : m ≤ 8 := by have := hf.2.1; omega
  have hb := bit_le m hm
  have hc := bit_cast m
  have HALL : Hid (all (m : Int) = ((bit m - 1 : Nat) : Int)) := Lib.hid (by rw [all_nat])
  have HI := Lib.hid h
  have HF := Lib.hid hf; have HG := Lib.hid hg
  have HR : Hid (rising l) := hf.2.2.rising
  have HW := Lib.hid (ways_all rfl hf hg)
  have hmk := mk_ints (bit m) (by omega)
  have hz0 : (madeCells #[Value.int .i64 0] (bit m))[0]? = some (.int .i64 0) := by
    rw [← Array.getElem?_toList, toList_madeCells_one, List.getElem?_replicate, if_pos (by omega)]
  have HT : Hid (∀ w : World, Tab (w.alloc (.cells ((madeCells #[Value.int .i64 0] (bit m)).setIfInBounds 0 (.int .i64 1)) 3)) w.heap.size (bit m) (waysTo l 0)) := fun w => by
    have := (Tab.made w (bit m)).set 0 1 (A' := waysTo l 0) (fun j _ => rfl)
    rw [World.setCell_alloc_at _ _ _ _ _ rfl] at this
    exact this
  clear h he hf hg
  show Calls _ _ _ _ (Ret B W (.tuple #[.int .i64 ((tak l m m 0).1 : Int), .int .i64 0]))
  rw [← HW.out]
  go_enter Try.func52, Try.ntmps52
  go_wp2_with (go_at_call 54; refine HC.out.mono ?_; rintro e _ ⟨rfl, u1, rfl⟩)
  have hg0 := u1.size
  have HT1 := Lib.hid (HT.out u1.val)
  generalize hgg : u1.val.heap.size = g at *
  have HGG := Lib.hid hgg; clear hgg
  go_loopw [25] (fun i wr => ∃ (k : Nat) (u : Later B W), k ≤ l.length ∧ i = .int .i64 k ∧ wr = u.val ∧ Hid (Tab u.val g (bit m) (waysTo l k))) (fun i _ => l.length - (intOf i).toNat)
  case atStart => exact ⟨0, u1.alloc _, by omega, rfl, rfl, HT1⟩
  case round =>
    obtain ⟨k, u, hk, rfl, rfl, HTk⟩ := hrel
    by_cases hlt : k < l.length
    · obtain ⟨s, hs, hs256, hsall, hsm⟩ := fam_nat HF.out hlt
      have hsb : s < bit m := by have := HALL.out; omega
      obtain ⟨b, off, rfl, hbB, hcell⟩ := HI.out.at hlt
      have c0 : u.val.cell? ⟨b, off + k, none⟩ = some (.int .i64 s) := by rw [← hs]; exact hcell u k hlt
      have Hs := Lib.hid hs
      clear hs hsm hsall hcell
      go_wp2
      go_loopw [10] (fun t wr => ∃ (t' : Nat) (v : Later B W), t' < 256 ∧ t = .int .i64 t' ∧ wr = v.val ∧ Hid (subBits t' s) ∧ Hid (Tab v.val g (bit m) (fun j => if j = s then waysTo l k s + partTo l (waysTo l k) s t' else waysTo l k j))) (fun t _ => (intOf t).toNat)
      case atStart => exact ⟨s, u, hs256, rfl, rfl, subBits_refl s, HTk.out.congr (fun j _ => by
        by_cases e : j = s
        · rw [if_pos e, partTo_start, e]; rfl
        · rw [if_neg e])⟩
      case round =>
        obtain ⟨t, v, ht, rfl, rfl, H2, HTab⟩ := hrel
        by_cases h0 : t = 0
        · have h0' := Lib.hid h0
          have d0 : ((t : Int) != 0) = false := by rw [h0]; rfl
          clear h0
          go_wp2
          go_roundw
          case rel => exact ⟨k+1, v, by omega, by go_num, rfl, by
            have := HTab.out
            rw [h0'.out, partTo_end] at this
            rw [waysTo_succ Hs.out]
            exact this.congr (fun j _ => by
              show (if j = s then _ else _ : Nat) = if j = s then _ else _
              by_cases e : j = s
              · rw [if_pos e, if_pos e, e]
              · rw [if_neg e, if_neg e])⟩
          case measure => simp [intOf]; omega
        · have hl1 := i64_low t ht
          have hl2 := i64_andNot s (low t) (by omega) (by have := low_lt t ht; omega)
          have hl3 := i64_drop1 t ht (by omega)
          have HD := Lib.hid (drop1_lt t ht)
          have d0 : ((t : Int) != 0) = true := by simp; omega
          have HM : Hid (drop1 t < t) := by obtain ⟨_, _, _, _, _, _, h⟩ := low_facts t ht h0; exact h
          have HB := Lib.hid (subBits_drop ht h0 H2.out)
          have HP := Lib.hid (partTo_step (l := l) (A := waysTo l k) hs256 ht h0 H2.out)
          have hq : nand s (low t) < s := by
            obtain ⟨e, he, h1, h2, _⟩ := low_facts t ht h0
            have hse := H2.out e he h2
            have := bit_le_of_mem s e hs256 he hse
            have := bit_lt e he
            rw [h1, nand_bit s e hs256 he hse]; omega
          have hb1 := ways_bound rfl HF.out HG.out.1 (k := k) (j := s) hk hsb
          have hb2 := part_bound rfl HF.out HG.out.1 (k := k) (s := s) t hk hsb
          have hb3 := ways_bound rfl HF.out HG.out.1 (k := k) (j := nand s (low t)) hk (by omega)
          have HH := Lib.hid (c_convexHas (Later.self v.val) l ((nand s (low t) : Nat) : Int) (some ⟨b, off, none⟩) cap (HI.out.to v) hlen HR.out)
          by_cases hm2 : ((nand s (low t) : Nat) : Int) ∈ l
          · have HH2 := Lib.hid (dcall_t HH.out hm2); clear HH
            have HM2 := Lib.hid hm2; clear hm2
            go_wp2_with (go_at_call 112; refine HH2.out.mono ?_; rintro e _ ⟨rfl, v1, rfl⟩)
            have HT2 : Hid (∀ w : Later v1.val.heap.size v1.val, Tab w.val g (bit m) (fun j => if j = s then waysTo l k s + partTo l (waysTo l k) s t else waysTo l k j)) := fun w => (HTab.out.keep v1.below).keep w.below
            have c1 : ∀ w : Later v1.val.heap.size v1.val, w.val.cell? ⟨g, s, none⟩ = some (.int .i64 ((waysTo l k s + partTo l (waysTo l k) s t : Nat) : Int)) := fun w => by have := (HT2.out w).cell hsb; rwa [if_pos rfl] at this
            have c2 : ∀ w : Later v1.val.heap.size v1.val, w.val.cell? ⟨g, nand s (low t), none⟩ = some (.int .i64 ((waysTo l k (nand s (low t)) : Nat) : Int)) := fun w => by have := (HT2.out w).cell (i := nand s (low t)) (by omega); rwa [if_neg (by omega)] at this
            have c3 : ∀ w : Later v1.val.heap.size v1.val, w.val.frozen? ⟨g, s, none⟩ = false := fun w => (HT2.out w).frozen s
            have hq2 : nand s (low t) < bit m := by omega
            have hw := IntWalk.i64_in (((waysTo l k s : Nat) : Int) + ((partTo l (waysTo l k) s t : Nat) : Int) + ((waysTo l k (nand s (low t)) : Nat) : Int)) (by omega)
            refine wp_region_later_tail (Later.self v1.val) 10 (by kernel_rfl) (by kernel_rfl) (fun v2 => ?_)
            simp only [List.take_succ_cons, List.take_zero, List.drop_succ_cons, List.drop_zero]
            repeat still_step
            refine wpStill_nil ?_
            go_wp2
            go_roundw
            case rel =>
              refine ⟨drop1 t, ((v.up v1).up v2).set ⟨g, s, none⟩ hg0 _, HD.out, rfl, rfl, HB, ?_⟩
              have := (HT2.out v2).set s (waysTo l k s + partTo l (waysTo l k) s t + waysTo l k (nand s (low t))) (A' := fun j => if j = s then waysTo l k s + partTo l (waysTo l k) s (drop1 t) else waysTo l k j) (fun j _ => by
                show (if j = s then _ else _ : Nat) = if j = s then _ else if j = s then _ else _
                rw [HP.out, if_pos HM2.out]
                by_cases e : j = s
                · rw [if_pos e, if_pos e]; omega
                · rw [if_neg e, if_neg e, if_neg e])
              rw [Int.natCast_add, Int.natCast_add] at this
              exact this
            case measure => have := HM.out; simp [intOf]; omega
          · have HH2 := Lib.hid (dcall_f HH.out hm2); clear HH
            have HM2 := Lib.hid hm2; clear hm2
            go_wp2_with (go_at_call 112; refine HH2.out.mono ?_; rintro e _ ⟨rfl, v1, rfl⟩)
            go_roundw
            case rel => exact ⟨drop1 t, v.up v1, HD.out, rfl, rfl, HB, by
              rw [HP.out, if_neg HM2.out, Nat.add_zero]
              exact HTab.out.keep v1.below⟩
            case measure => have := HM.out; simp [intOf]; omega
    · have hke : Hid (k = l.length) := Lib.hid (by omega)
      have c4 := HTk.out.cell (i := bit m - 1) (by omega)
      go_wp2
      go_ret2
      exact Ret.mk u (by rw [hke.out]; rfl)

end Go.Proofs.Ytcljgnmlpfddiaa
