
/-
  rotaref.Grown: the sets that come of none by one element more each time.
-/
import Derived.Test.YtdhkobeagfmcnaaDoorCvTr
import Derived.Test.YtdhkobeagfmcnaaDoorThose
import Derived.Test.YtdhkobeagfmcnaaDoorTabs
import Derived.Test.YtdhkobeagfmcnaaDoorRowL
import Derived.IntWalk
import Derived.Deep.CutRange
import Derived.Deep.CutBlock
namespace Go.Proofs.YtdhkobeagfmcnaaDoor
open Go.RowKit
set_option linter.unusedVariables false

/-- one row of the table, behind i elements -/
def gR (may : Nat → Nat → Bool) (A : Nat → Nat) (s : Nat) : Nat → Nat → Nat
  | 0, t => A t
  | i + 1, t => if s.testBit i = false ∧ may s i = true ∧ t = s ||| bit i then gR may A s i t + 1 else gR may A s i t
/-- the table behind s sets -/
def gS (m : Nat) (may : Nat → Nat → Bool) : Nat → Nat → Nat
  | 0, t => if t = 0 then 1 else 0
  | s + 1, t => if 0 < gS m may s s then gR may (gS m may s) s m t else gS m may s t
theorem gR_le (may : Nat → Nat → Bool) (A : Nat → Nat) (s t : Nat) : ∀ i, gR may A s i t ≤ A t + i
  | 0 => Nat.le_refl _
  | i + 1 => by
    have := gR_le may A s t i
    unfold gR
    split <;> omega
theorem gS_le {m : Nat} (hm : m ≤ 8) (may : Nat → Nat → Bool) (t : Nat) : ∀ s, gS m may s t ≤ 1 + 8 * s
  | 0 => by unfold gS; split <;> omega
  | s + 1 => by
    have h1 := gS_le hm may t s
    have h2 := gR_le may (gS m may s) s t m
    unfold gS
    split <;> omega
theorem gR_pos (may : Nat → Nat → Bool) (A : Nat → Nat) (s t : Nat) : ∀ i, 0 < gR may A s i t ↔ 0 < A t ∨ ∃ j, j < i ∧ s.testBit j = false ∧ may s j = true ∧ t = s ||| bit j
  | 0 => by simp [gR]
  | i + 1 => by
    have ih := gR_pos may A s t i
    unfold gR
    split
    · rename_i h
      constructor
      · intro _; exact .inr ⟨i, by omega, h⟩
      · intro _; omega
    · rename_i h
      rw [ih]
      constructor
      · rintro (g | ⟨j, hj, g⟩)
        · exact .inl g
        · exact .inr ⟨j, by omega, g⟩
      · rintro (g | ⟨j, hj, g⟩)
        · exact .inl g
        · by_cases c : j = i
          · subst c; exact absurd g h
          · exact .inr ⟨j, by omega, g⟩
theorem or_bit_gt {s i : Nat} (h : s.testBit i = false) : s < s ||| bit i := by
  have h1 : s ≤ s ||| bit i := Nat.left_le_or
  have h2 : s ≠ s ||| bit i := fun c => by
    have := congrArg (fun z => z.testBit i) c
    simp only [Nat.testBit_or, testBit_bit, h] at this
    simp at this
  omega
theorem gR_self (may : Nat → Nat → Bool) (A : Nat → Nat) (s : Nat) : ∀ i, gR may A s i s = A s
  | 0 => rfl
  | i + 1 => by
    unfold gR
    rw [if_neg, gR_self may A s i]
    rintro ⟨h, _, c⟩
    have := or_bit_gt h
    omega
theorem gS_succ (m : Nat) (may : Nat → Nat → Bool) (k t : Nat) : gS m may (k + 1) t = if 0 < gS m may k k then gR may (gS m may k) k m t else gS m may k t := rfl
theorem gS_pos (m : Nat) (may : Nat → Nat → Bool) (t : Nat) : ∀ k, 0 < gS m may k t ↔ t = 0 ∨ ∃ s, s < k ∧ 0 < gS m may s s ∧ ∃ j, j < m ∧ s.testBit j = false ∧ may s j = true ∧ t = s ||| bit j
  | 0 => by unfold gS; split <;> simp_all
  | k + 1 => by
    have ih := gS_pos m may t k
    rw [gS_succ]
    split
    · rename_i h
      rw [gR_pos, ih]
      constructor
      · rintro ((g | ⟨s, hs, g⟩) | g)
        · exact .inl g
        · exact .inr ⟨s, by omega, g⟩
        · exact .inr ⟨k, by omega, h, g⟩
      · rintro (g | ⟨s, hs, g1, g⟩)
        · exact .inl (.inl g)
        · by_cases c : s = k
          · subst c; exact .inr g
          · exact .inl (.inr ⟨s, by omega, g1, g⟩)
    · rename_i h
      rw [ih]
      constructor
      · rintro (g | ⟨s, hs, g⟩)
        · exact .inl g
        · exact .inr ⟨s, by omega, g⟩
      · rintro (g | ⟨s, hs, g1, g⟩)
        · exact .inl g
        · by_cases c : s = k
          · subst c; exact absurd g1 h
          · exact .inr ⟨s, by omega, g1, g⟩
theorem gS_grw (m : Nat) (may : Nat → Nat → Bool) : ∀ s, 0 < gS m may s s ↔ Grw m may s := by
  intro s
  constructor
  · induction s using Nat.strongRecOn with
    | _ s ih =>
      intro h
      rcases (gS_pos m may s s).1 h with rfl | ⟨r, hr, h1, j, hj, h2, h3, rfl⟩
      · exact .zero
      · exact .step (ih r hr h1) hj h2 h3
  · intro h
    induction h with
    | zero => rw [gS_pos]; exact .inl rfl
    | @step s i hg hi h2 h3 ih => rw [gS_pos]; exact .inr ⟨s, or_bit_gt h2, ih, i, hi, h2, h3, rfl⟩
theorem gS_all {m : Nat} {may : Nat → Nat → Bool} {s : Nat} (hs : s < bit m) : 0 < gS m may (bit m) s ↔ Grw m may s := by
  rw [← gS_grw, gS_pos, gS_pos]
  constructor
  · rintro (g | ⟨r, hr, h1, j, hj, h2, h3, rfl⟩)
    · exact .inl g
    · exact .inr ⟨r, or_bit_gt h2, h1, j, hj, h2, h3, rfl⟩
  · rintro (g | ⟨r, hr, g⟩)
    · exact .inl g
    · exact .inr ⟨r, by omega, g⟩
/-- the sets that grow, rising -/
def grown (m : Nat) (may : Nat → Nat → Bool) : List Nat := those m (fun s => decide (0 < gS m may (bit m) s))
theorem mem_grown {m : Nat} {may : Nat → Nat → Bool} {s : Nat} : s ∈ grown m may ↔ Grw m may s := by
  unfold grown
  rw [mem_those, decide_eq_true_eq]
  constructor
  · rintro ⟨h1, h2⟩; exact (gS_all h1).1 h2
  · intro h; exact ⟨h.lt, (gS_all h.lt).2 h⟩

/-- a function value that tells of a set and an element without whether it may come -/
def Tells2 (B : Nat) (W : World) (k : FuncId) (caps : Array Value) (m : Nat) (may : Nat → Nat → Bool) : Prop :=
  ∀ (x : Later B W) (v : Later x.val.heap.size x.val) (s i : Nat), s < bit m → i < m → s.testBit i = false → Calls Tryd.prog k (#[.int .i64 (s : Int), .int .i64 (i : Int)] ++ caps) v.val (Ret x.val.heap.size x.val (.bool (may s i)))

set_option maxRecDepth 100000 in
set_option maxHeartbeats 8000000 in
theorem c_grownTell {B : Nat} {W : World} (u : Later B W) (m s gs gd : Nat) (A : Nat → Nat) (hs : s < bit m) (hgs : gs < B) (hgd : gd < B) (hbox : W.cell? ⟨gs, 0, none⟩ = some (.slice (some ⟨gd, 0, none⟩) (bit m) (bit m))) (hT : ITab W gd (bit m) (fun t => (A t : Int))) :
    Calls Tryd.prog 33 #[.int .i64 s, .pointer (some ⟨gs, 0, none⟩)] u.val (Ret B W (.bool (decide (0 < A s)))) := by
  have c0 : ∀ v : Later B W, v.val.cell? ⟨gs, 0, none⟩ = some (.slice (some ⟨gd, 0, none⟩) (bit m) (bit m)) := fun v => by rw [v.cell hgs]; exact hbox
  have c1 : ∀ v : Later B W, v.val.cell? ⟨gd, s, none⟩ = some (.int .i64 (A s : Int)) := fun v => by rw [v.cell hgd]; exact hT.cell hs
  have hsz : (s : Int) < (bit m : Int) := by omega
  have c0' := c0 u
  have c1' := c1 u
  have HN : Hid (decide ((A s : Int) > 0) = decide (0 < A s)) := Lib.hid (by rw [decide_eq_decide]; omega)
  clear hT hbox
  generalize A s = x at *
  generalize bit m = q at *
  have HN2 : Hid (decide (0 < (x : Int)) = decide (0 < x)) := Lib.hid (by rw [decide_eq_decide]; omega)
  go_enter Tryd.func33, Tryd.ntmps33
  go_wp2
  go_ret
  exact Ret.mk u (vbool (by first | exact HN2.out | exact HN.out | simp))

theorem RowL.other {w : World} {g : Nat} {t : TypeId} {vs : List Value} (h : RowL w g t vs) {b i : Nat} (hne : g ≠ b) (x : Value) : RowL (w.setCell ⟨b, i, none⟩ x) g t vs := by
  show (w.setCell ⟨b, i, none⟩ x).heap[g]? = _
  rw [Below.heap_setCell _ _ _ _ (by rintro rfl; exact hne rfl)]
  exact h
/-- the table and its box -/
def SeenAt (w : World) (gd q : Nat) (A : Nat → Nat) : Prop := ITab w gd q (fun t => (A t : Int)) ∧ RowL w (gd + 1) 29 [.slice (some ⟨gd, 0, none⟩) q q]
theorem SeenAt.keep {w w' : World} {gd q : Nat} {A : Nat → Nat} (h : SeenAt w gd q A) (hb : Below w.heap.size w w') : SeenAt w' gd q A := ⟨h.1.keep hb, h.2.keep hb⟩
theorem SeenAt.box {w : World} {gd q : Nat} {A : Nat → Nat} (h : SeenAt w gd q A) : w.cell? ⟨gd + 1, 0, none⟩ = some (.slice (some ⟨gd, 0, none⟩) q q) := h.2.cell rfl
theorem SeenAt.cell {w : World} {gd q : Nat} {A : Nat → Nat} (h : SeenAt w gd q A) {t : Nat} (ht : t < q) : w.cell? ⟨gd, t, none⟩ = some (.int .i64 (A t : Int)) := h.1.cell ht
theorem SeenAt.set {w : World} {gd q : Nat} {A A' : Nat → Nat} (h : SeenAt w gd q A) (i v : Nat) (e : ∀ t, A' t = if t = i then v else A t) : SeenAt (w.setCell ⟨gd, i, none⟩ (.int .i64 (v : Int))) gd q A' :=
  ⟨h.1.set i (v : Int) (fun t _ => by rw [e t]; split <;> rfl), h.2.other (by omega) _⟩
theorem SeenAt.congr {w : World} {gd q : Nat} {A A' : Nat → Nat} (h : SeenAt w gd q A) (e : ∀ t, A t = A' t) : SeenAt w gd q A' := ⟨h.1.congr (fun t _ => by rw [e t]), h.2⟩
set_option maxRecDepth 100000 in
set_option maxHeartbeats 20000000 in
theorem c_grown {B : Nat} {W : World} (u : Later B W) (m : Nat) (hm : m ≤ 8) (k : FuncId) (caps : Array Value) (may : Nat → Nat → Bool) (hpl : Plain k) (hk : Tells2 B W k caps m may) :
    Calls Tryd.prog 15 #[.int .i64 m, .func (.func k) #[] caps] u.val (RetInts B W (ints (grown m may))) := by
  have hb := bit_le m hm
  have bc := bit_cast m
  have wb : IntKind.i64.wrap (bit m : Int) = (bit m : Int) := IntWalk.i64_in _ (by omega)
  have hp1 : ∀ (args : Array Value) (w : World), (callFunc k args).run Tryd.prog w = .ok (.enter k args) w := hpl
  have HK := Lib.hid hk
  have HLe := Lib.hid (fun t s => gS_le hm may t s)
  have HRle := Lib.hid (fun A s t i => gR_le may A s t i)
  have HRs := Lib.hid (fun A s i => gR_self may A s i)
  have HG0 : Hid (∀ t, gS m may 0 t = if t = 0 then 1 else 0) := Lib.hid (fun t => rfl)
  have HGs : Hid (∀ s, 0 < gS m may s s → ∀ t, gS m may (s + 1) t = gR may (gS m may s) s m t) := Lib.hid (fun s h t => by rw [gS_succ, if_pos h])
  have HGn : Hid (∀ s, ¬ 0 < gS m may s s → ∀ t, gS m may (s + 1) t = gS m may s t) := Lib.hid (fun s h t => by rw [gS_succ, if_neg h])
  have HR0 : Hid (∀ A s t, gR may A s 0 t = A t) := Lib.hid (fun _ _ _ => rfl)
  have HRy : Hid (∀ A s i, s.testBit i = false → may s i = true → ∀ t, gR may A s (i + 1) t = if t = s ||| bit i then gR may A s i t + 1 else gR may A s i t) := Lib.hid (fun A s i h1 h2 t => by
    show (if _ then _ else _) = _
    by_cases c : t = s ||| bit i
    · rw [if_pos ⟨h1, h2, c⟩, if_pos c]
    · rw [if_neg (fun h => c h.2.2), if_neg c])
  have HRn : Hid (∀ A s i, ¬ (s.testBit i = false ∧ may s i = true) → ∀ t, gR may A s (i + 1) t = gR may A s i t) := Lib.hid (fun A s i h t => by
    show (if _ then _ else _) = _
    rw [if_neg (fun c => h ⟨c.1, c.2.1⟩)])
  have HFin : Hid (grown m may = those m (fun s => decide (0 < gS m may (bit m) s))) := Lib.hid rfl
  clear hpl hk
  generalize grown m may = GL at *
  generalize gS m may = gs at *
  generalize gR may = gr at *
  have hmk := mk_tab (bit m) (by omega)
  go_enter Tryd.func15, Tryd.ntmps15
  go_upto_region 2 with fail
  clear hmk
  have HV : Hid (∀ y : Later u.val.heap.size u.val, ∃ w : Later B W, w.val = y.val) := Lib.hid (fun y => ⟨u.up y, rfl⟩)
  have e1 : (u.val.alloc (.cells (madeCells #[.int .i64 0] (bit m)) 3)).heap.size = u.val.heap.size + 1 := by simp
  have HS0 : Hid (SeenAt ((u.val.alloc (.cells (madeCells #[.int .i64 0] (bit m)) 3)).alloc (.cells #[.slice (some ⟨u.val.heap.size, 0, none⟩) (bit m) (bit m)] 29)) u.val.heap.size (bit m) (fun _ => 0)) := Lib.hid ⟨((ITab.made u.val (bit m)).congr (fun t _ => rfl)).keep ((Later.self _).alloc _).below, by
    have := RowL.new (u.val.alloc (.cells (madeCells #[.int .i64 0] (bit m)) 3)) 29 [.slice (some ⟨u.val.heap.size, 0, none⟩) (bit m) (bit m)]
    rwa [e1] at this⟩
  obtain ⟨y, hy⟩ : ∃ y : Later u.val.heap.size u.val, y.val = ((u.val.alloc (.cells (madeCells #[.int .i64 0] (bit m)) 3)).alloc (.cells #[.slice (some ⟨u.val.heap.size, 0, none⟩) (bit m) (bit m)] 29)) := ⟨((Later.self u.val).alloc _).alloc _, rfl⟩
  rw [← hy] at HS0 ⊢
  clear hy e1
  generalize u.val = V at *
  clear u
  generalize hgd : V.heap.size = gd at *
  clear hgd
  have HKV : Hid (∀ (v : Later gd V) (z : Later v.val.heap.size v.val) (s i : Nat), s < bit m → i < m → s.testBit i = false → Calls Tryd.prog k (#[.int .i64 (s : Int), .int .i64 (i : Int)] ++ caps) z.val (Ret v.val.heap.size v.val (.bool (may s i)))) := Lib.hid (fun v z s i h1 h2 h3 => by
    obtain ⟨w, hw⟩ := HV.out v
    have := HK.out w
    rw [hw] at this
    exact this z s i h1 h2 h3)
  clear HK
  obtain ⟨q, hq⟩ : ∃ q, q = bit m := ⟨_, rfl⟩
  rw [← hq] at bc wb hb HS0 HKV HFin ⊢
  have Hq := Lib.hid hq
  clear hq
  have c0 := HS0.out.box
  have c1 := HS0.out.cell (t := 0) (by omega)
  have c2 : y.val.frozen? ⟨gd, 0, none⟩ = false := HS0.out.1.frozen 0
  have hq0 : (0 : Int) < (q : Int) := by omega
  have hq00 : 0 < q := by omega
  go_upto_region 3 with fail
  have HS1 : Hid (SeenAt (y.val.setCell ⟨gd, 0, none⟩ (.int .i64 1)) gd q (gs 0)) := Lib.hid (HS0.out.set 0 1 (fun t => by rw [HG0.out]))
  obtain ⟨y1, hy1⟩ : ∃ y1 : Later gd V, y1.val = y.val.setCell ⟨gd, 0, none⟩ (.int .i64 1) := ⟨y.set ⟨gd, 0, none⟩ (Nat.le_refl _) _, rfl⟩
  rw [← hy1] at HS1 ⊢
  clear hy1 c0 c1 c2 HS0 y
  go_wp2
  go_loopw [6] (fun i wr => ∃ (s : Nat) (v : Later gd V), s ≤ q ∧ i = .int .i64 s ∧ wr = v.val ∧ Hid (SeenAt v.val gd q (gs s))) (fun i _ => q - (intOf i).toNat)
  case atStart => exact ⟨0, y1, by omega, rfl, rfl, HS1⟩
  case round =>
    clear HS1 y1
    obtain ⟨s, v, hs, rfl, rfl, HT⟩ := hrel
    have b0 := HT.out.box
    by_cases hlt : s < q
    · have hs8 : s < 256 := by omega
      by_cases hpos : 0 < gs s s
      case neg =>
        have HN : Hid (SeenAt v.val gd q (gs (s + 1))) := Lib.hid (HT.out.congr (fun t => by rw [HGn.out s hpos]))
        have hz : gs s s = 0 := by omega
        have c1 := HT.out.cell (t := s) hlt
        rw [hz] at c1
        have hsz : (s : Int) < (q : Int) := by omega
        clear HT hpos hz
        go_wp2
        go_loopw [7] (fun i wr => i = .int .i64 0 ∧ wr = v.val) (fun _ _ => 0)
        case atStart => exact ⟨rfl, rfl⟩
        case round =>
          obtain ⟨rfl, rfl⟩ := hrel
          go_wp2
          go_roundw
          case rel => exact ⟨s+1, v, by omega, by go_num, rfl, HN⟩
          case measure => simp [intOf]; omega
      have HTa : Hid (SeenAt v.val gd q (gr (gs s) s 0)) := Lib.hid (HT.out.congr (fun t => by rw [HR0.out]))
      have HEnd : Hid (∀ w : World, SeenAt w gd q (gr (gs s) s m) → SeenAt w gd q (gs (s + 1))) := Lib.hid (fun w h => h.congr (fun t => by rw [HGs.out s hpos]))
      have hsz : (s : Int) < (q : Int) := by omega
      have hle := HLe.out s s
      have HRl := Lib.hid (fun t i => HRle.out (gs s) s t i)
      have HRse := Lib.hid (fun i => HRs.out (gs s) s i)
      have HY := Lib.hid (HRy.out (gs s) s)
      have HN := Lib.hid (HRn.out (gs s) s)
      have HLt := Lib.hid (fun t => HLe.out t s)
      clear HT
      generalize hA : gr (gs s) s = Ar at *
      generalize hx : gs s s = x at *
      clear hA hx
      go_wp2
      go_loopw [7] (fun i wr => ∃ (j : Nat) (z : Later gd V), j ≤ m ∧ i = .int .i64 j ∧ wr = z.val ∧ Hid (SeenAt z.val gd q (Ar j))) (fun i _ => m - (intOf i).toNat)
      case atStart => exact ⟨0, v, by omega, rfl, rfl, HTa⟩
      case round =>
        clear HTa b0 v
        obtain ⟨j, z, hj, rfl, rfl, HT⟩ := hrel
        have b0 := HT.out.box
        have c1 : z.val.cell? ⟨gd, s, none⟩ = some (.int .i64 (x : Int)) := by have := HT.out.cell (t := s) hlt; rwa [HRse.out] at this
        have hx0 : (0 : Int) < (x : Int) := by omega
        by_cases hjm : j < m
        · have KI : Hid (Calls Tryd.prog 19 #[.int .i64 s, .int .i64 j] z.val (Ret z.val.heap.size z.val (.bool (s.testBit j)))) := Lib.hid (c_in (Later.self z.val) s j (by omega) (by omega))
          rcases btf (s.testBit j) with g1 | g1
          · rw [g1] at KI
            have HT2 : Hid (SeenAt z.val gd q (Ar (j + 1))) := Lib.hid (HT.out.congr (fun t => by rw [HN.out j (fun c => by rw [g1] at c; exact absurd c.1 (by decide))]))
            clear g1 HT
            go_wp2_with (first | (go_at_call 19; (with_reducible refine (KI.out).mono ?_); rintro e _ ⟨rfl, z1, rfl⟩))
            go_roundw
            case rel => exact ⟨j+1, z.up z1, by omega, by go_num, rfl, Lib.hid (HT2.out.keep z1.below)⟩
            case measure => simp [intOf]; omega
          · rw [g1] at KI
            have KM := Lib.hid (fun z1 => HKV.out z z1 s j hlt hjm g1)
            rcases btf (may s j) with g2 | g2
            · rw [g2] at KM
              have hsum := or_bit s j hs8 (by omega) g1
              have hp : s ||| bit j < q := by rw [Hq.out] at hlt ⊢; exact or_lt_bit hlt (bit_lt_bit hjm)
              have hYj : Hid (∀ t, Ar (j + 1) t = if t = s ||| bit j then Ar j t + 1 else Ar j t) := Lib.hid (HY.out j g1 g2)
              have hb1 := HRl.out (s ||| bit j) j
              have hb2 := HLt.out (s ||| bit j)
              have hbj := bit_lt j (by omega)
              have bcj := bit_cast j
              have w3 : IntKind.i64.wrap (bit j : Int) = (bit j : Int) := IntWalk.i64_in _ (by omega)
              clear g1 g2
              generalize hpe : s ||| bit j = p at *
              have w1 : IntKind.i64.wrap ((s : Int) + (bit j : Int)) = (p : Int) := by rw [IntWalk.i64_in _ (by omega)]; omega
              have HTz : Hid (∀ w : Later z.val.heap.size z.val, SeenAt w.val gd q (Ar j)) := Lib.hid (fun w => HT.out.keep w.below)
              have HSt : Hid (∀ w : World, SeenAt w gd q (Ar j) → SeenAt (w.setCell ⟨gd, p, none⟩ (.int .i64 ((Ar j p + 1 : Nat) : Int))) gd q (Ar (j + 1))) := Lib.hid (fun w h => h.set p (Ar j p + 1) (fun t => by
                rw [hYj.out]
                by_cases c : t = p
                · subst c; rw [if_pos rfl]
                · rw [if_neg c, if_neg c]))
              have c2 : ∀ w : Later z.val.heap.size z.val, w.val.cell? ⟨gd, p, none⟩ = some (.int .i64 (Ar j p : Int)) := fun w => (HTz.out w).cell hp
              have c3 : ∀ w : Later z.val.heap.size z.val, w.val.cell? ⟨gd + 1, 0, none⟩ = some (.slice (some ⟨gd, 0, none⟩) q q) := fun w => (HTz.out w).box
              have c4 : ∀ w : Later z.val.heap.size z.val, w.val.frozen? ⟨gd, p, none⟩ = false := fun w => (HTz.out w).1.frozen p
              have hpz : (p : Int) < (q : Int) := by omega
              generalize ha : Ar j p = a at *
              obtain ⟨a1, ha1⟩ : ∃ a1 : Nat, a1 = a + 1 := ⟨_, rfl⟩
              have w2 : IntKind.i64.wrap ((a : Int) + 1) = (a1 : Int) := by rw [IntWalk.i64_in _ (by omega)]; omega
              rw [← ha1] at HSt
              have HA1 := Lib.hid ha1
              clear ha1 ha HT hpe hsum hYj
              go_wp2_with (first | (go_at_call 19; (with_reducible refine (KI.out).mono ?_); rintro e _ ⟨rfl, z1, rfl⟩) | (refine (KM.out z1).mono ?_; rintro e _ ⟨rfl, z2, rfl⟩))
              have d2 : ∀ w : Later z2.val.heap.size z2.val, w.val.cell? ⟨gd, p, none⟩ = some (.int .i64 (a : Int)) := fun w => c2 (z2.up w)
              have d3 : ∀ w : Later z2.val.heap.size z2.val, w.val.cell? ⟨gd + 1, 0, none⟩ = some (.slice (some ⟨gd, 0, none⟩) q q) := fun w => c3 (z2.up w)
              have d4 : ∀ w : Later z2.val.heap.size z2.val, w.val.frozen? ⟨gd, p, none⟩ = false := fun w => c4 (z2.up w)
              clear c2 c3 c4
              refine wp_region_later_tail (Later.self z2.val) 9 (by kernel_rfl) (by kernel_rfl) (fun z3 => ?_)
              simp only [List.take_succ_cons, List.take_zero, List.drop_succ_cons, List.drop_zero]
              repeat still_step
              refine wpStill_nil ?_
              go_wp2
              go_roundw
              case rel => exact ⟨j+1, (z.up (z2.up z3)).set ⟨gd, p, none⟩ (Nat.le_refl _) _, by omega, by go_num, rfl, Lib.hid (HSt.out _ (HTz.out (z2.up z3)))⟩
              case measure => simp [intOf]; omega
            · rw [g2] at KM
              have HT2 : Hid (SeenAt z.val gd q (Ar (j + 1))) := Lib.hid (HT.out.congr (fun t => by rw [HN.out j (fun c => by rw [g2] at c; exact absurd c.2 (by decide))]))
              clear g1 g2 HT
              go_wp2_with (first | (go_at_call 19; (with_reducible refine (KI.out).mono ?_); rintro e _ ⟨rfl, z1, rfl⟩) | (refine (KM.out z1).mono ?_; rintro e _ ⟨rfl, z2, rfl⟩))
              go_roundw
              case rel => exact ⟨j+1, z.up z2, by omega, by go_num, rfl, Lib.hid (HT2.out.keep z2.below)⟩
              case measure => simp [intOf]; omega
        · have hje : j = m := by omega
          subst hje
          have HN2 := Lib.hid (HEnd.out _ HT.out)
          go_wp2
          go_roundw
          case rel => exact ⟨s+1, z, by omega, by go_num, rfl, HN2⟩
          case measure => simp [intOf]; omega
    · have hse : s = q := by omega
      subst hse
      have KT : Hid (Calls Tryd.prog 32 #[.int .i64 m, .func (.func 33) #[] #[.pointer (some ⟨gd + 1, 0, none⟩)]] v.val (RetInts v.val.heap.size v.val (ints (those m (fun r => decide (0 < gs s r)))))) := Lib.hid (c_those (Later.self v.val) m hm 33 #[.pointer (some ⟨gd + 1, 0, none⟩)] (fun r => decide (0 < gs s r)) (fun args w => by kernel_rfl) (fun x z r hr => by
        have hx : SeenAt x.val gd s (gs s) := HT.out.keep x.below
        have := c_grownTell z m r (gd + 1) gd (gs s) hr hx.2.lt hx.1.lt (by rw [← Hq.out]; exact hx.box) (by rw [← Hq.out]; exact hx.1)
        exact this))
      have HFn : Hid (GL = those m (fun r => decide (0 < gs s r))) := HFin
      rw [← HFn.out] at KT
      go_wp2_with (first | (go_at_call 32; (with_reducible refine (KT.out).mono ?_); rintro e _ ⟨_, rfl, ⟨ad, cp, rfl, hI, hc⟩, v2, rfl⟩))
      go_ret
      exact RetP.of (HV.out (v.up v2)) ⟨ad, cp, rfl, hI, hc⟩

end Go.Proofs.YtdhkobeagfmcnaaDoor
