/-
  game.Move.
-/
import Derived.Test.YtcljgnmlpfddiaaGameJoins
namespace Go.Proofs.Ytcljgnmlpfddiaa
open Go.RowKit Go.Maps
set_option linter.unusedVariables false

/-- a move by which the one to move wins -/
def mvOk (H : Nat → Bool) (m j c : Nat) (first : Bool) (i : Nat) : Prop := (j ||| c).testBit i = false ∧ ((first = true ∧ win H m (j ||| bit i) c false = true) ∨ (first = false ∧ win H m j (c ||| bit i) true = false))
def MvIs (H : Nat → Bool) (m j c : Nat) (first : Bool) (i e : Int) : Prop := (overV H m j c ≠ 0 → i = 0 ∧ e = 6) ∧ (overV H m j c = 0 → (∃ k : Nat, k < m ∧ mvOk H m j c first k ∧ (∀ l, l < k → ¬ mvOk H m j c first l) ∧ i = k ∧ e = 0) ∨ ((∀ l, l < m → ¬ mvOk H m j c first l) ∧ i = 0 ∧ e = 5))
theorem least_of (P : Nat → Prop) (m : Nat) : (∃ k, k < m ∧ P k ∧ ∀ l, l < k → ¬ P l) ∨ ∀ l, l < m → ¬ P l := by
  induction m with
  | zero => exact .inr (fun l h => by omega)
  | succ m ih =>
    rcases ih with ⟨k, h1, h2⟩ | h
    · exact .inl ⟨k, by omega, h2⟩
    · by_cases hp : P m
      · exact .inl ⟨m, by omega, hp, h⟩
      · exact .inr (fun l hl => by
          by_cases e : l = m
          · subst e; exact hp
          · exact h l (by omega))
theorem MvIs.ex (H : Nat → Bool) (m j c : Nat) (first : Bool) : ∃ i e, MvIs H m j c first i e := by
  by_cases ho : overV H m j c = 0
  · rcases least_of (mvOk H m j c first) m with ⟨k, h1, h2, h3⟩ | h
    · exact ⟨k, 0, fun h => absurd ho h, fun _ => .inl ⟨k, h1, h2, h3, rfl, rfl⟩⟩
    · exact ⟨0, 5, fun h => absurd ho h, fun _ => .inr ⟨h, rfl, rfl⟩⟩
  · exact ⟨0, 6, fun _ => ⟨rfl, rfl⟩, fun h => absurd h ho⟩
theorem MvIs.hit {H : Nat → Bool} {m j c : Nat} {first : Bool} {i e : Int} (h : MvIs H m j c first i e) (ho : overV H m j c = 0) {d : Nat} (hd : d < m) (hok : mvOk H m j c first d) (hno : ∀ l, l < d → ¬ mvOk H m j c first l) : i = d ∧ e = 0 := by
  rcases h.2 ho with ⟨k, h1, h2, h3, h4, h5⟩ | ⟨h1, _⟩
  · have : k = d := by
      rcases Nat.lt_trichotomy k d with h | h | h
      · exact absurd h2 (hno k h)
      · exact h
      · exact absurd hok (h3 d h)
    rw [← this]; exact ⟨h4, h5⟩
  · exact absurd hok (h1 d hd)
theorem MvIs.miss {H : Nat → Bool} {m j c : Nat} {first : Bool} {i e : Int} (h : MvIs H m j c first i e) (ho : overV H m j c = 0) (hno : ∀ l, l < m → ¬ mvOk H m j c first l) : i = 0 ∧ e = 5 := by
  rcases h.2 ho with ⟨k, h1, h2, h3, h4, h5⟩ | ⟨_, h2⟩
  · exact absurd h2 (hno k h1)
  · exact h2
theorem mv_next {H : Nat → Bool} {m j c : Nat} {first : Bool} {d : Nat} (h : ∀ l, l < d → ¬ mvOk H m j c first l) (hn : ¬ mvOk H m j c first d) : ∀ l, l < d + 1 → ¬ mvOk H m j c first l := fun l hl => by
  by_cases e : l = d
  · subst e; exact hn
  · exact h l (by omega)
theorem and_bit_zero (a d : Nat) : a &&& bit d = 0 ↔ a.testBit d = false := by
  rw [Nat.and_comm, and_eq_zero_iff]
  constructor
  · intro h; exact h d (by rw [testBit_bit]; simp)
  · intro h i hi
    rw [testBit_bit] at hi
    have : d = i := by simpa using hi
    rw [← this]; exact h
theorem cost7 (k : Nat) (h : k ≤ 7) : cost k ≤ 13700 := by
  have : ∀ k : Fin 8, cost k.val ≤ 13700 := by decide
  exact this ⟨k, by omega⟩

set_option maxRecDepth 100000 in
set_option maxHeartbeats 4000000 in
theorem c_move_no {B : Nat} {W : World} (u : Later B W) (n s t j c : Int) (first : Bool) (es : List (Int × Int)) (a : Option Addr) (cap : Nat) (h : EdgesAt B W a es) (hlen : es.length ≤ 4611686018427387904) (hj : j < 9223372036854775808) (hc : c < 9223372036854775808) (hp : ¬ isPos n es s t j c) :
    Calls Try.prog 17 #[.agg #[.int .i64 n, .slice a es.length cap], .int .i64 s, .int .i64 t, .int .i64 j, .int .i64 c, .bool first] u.val (Ret B W (.tuple #[.int .i64 0, .int .i64 1])) := by
  have K0 : Hid (Calls Try.prog 18 #[.agg #[.int .i64 n, .slice a es.length cap], .int .i64 s, .int .i64 t, .int .i64 j, .int .i64 c] (u.val.alloc (.cells #[.int .i64 n, .slice a es.length cap] 27)) (Ret B W (.int .i64 1))) := Lib.hid (by
    have := c_gameCheck (u.alloc (.cells #[.int .i64 n, .slice a es.length cap] 27)) n s t j c es a cap h hlen hj hc
    rwa [← errno_bad hp] at this)
  clear h hp
  go_enter Try.func17, Try.ntmps17
  go_wp2_with (first | (go_at_call 18; refine (K0.out).mono ?_; rintro e _ ⟨rfl, v1, rfl⟩))
  go_ret2
  exact Ret.mk v1 rfl

set_option maxRecDepth 100000 in
set_option maxHeartbeats 20000000 in
theorem c_move {B : Nat} {W : World} (u : Later B W) (n s t j c : Nat) (first : Bool) (es : List (Int × Int)) (a : Option Addr) (cap : Nat) (i e : Int) (h : EdgesAt B W a es) (hp : isPos n es s t j c) (hmv : MvIs (led n es s t) es.length j c first i e) :
    Calls Try.prog 17 #[.agg #[.int .i64 n, .slice a es.length cap], .int .i64 s, .int .i64 t, .int .i64 j, .int .i64 c, .bool first] u.val (Ret B W (.tuple #[.int .i64 i, .int .i64 e])) := by
  have hG := hp.1
  have he8 : es.length ≤ 8 := hG.2.2.1
  have hbm := bit_le es.length he8
  have hbmc := bit_cast es.length
  have hs : s < 8 := by have := hp.2.1; have := hG.2.1; omega
  have ht : t < 8 := by have := hp.2.1; have := hG.2.1; omega
  have hj : j < bit es.length := by have := (isSet_iff he8 (j : Int)).1 hp.2.2.1; omega
  have hc : c < bit es.length := by have := (isSet_iff he8 (c : Int)).1 hp.2.2.2.1; omega
  have T0 : Hid (Two (u.val.alloc (.cells #[.int .i64 n, .slice a es.length cap] 27)) u.val.heap.size 27 (.int .i64 n) (.slice a es.length cap)) := Lib.hid (Two.new _ _ _ _)
  have hE' : EdgesAt (u.val.alloc (.cells #[.int .i64 n, .slice a es.length cap] 27)).heap.size (u.val.alloc (.cells #[.int .i64 n, .slice a es.length cap] 27)) a es := h.to (u.alloc (.cells #[.int .i64 n, .slice a es.length cap] 27))
  have HV : Hid (∀ v : Later (u.val.alloc (.cells #[.int .i64 n, .slice a es.length cap] 27)).heap.size (u.val.alloc (.cells #[.int .i64 n, .slice a es.length cap] 27)), ∃ w : Later B W, w.val = v.val) := Lib.hid (fun v => ⟨(u.alloc _).up v, rfl⟩)
  have K0 : Hid (Calls Try.prog 18 #[.agg #[.int .i64 n, .slice a es.length cap], .int .i64 s, .int .i64 t, .int .i64 j, .int .i64 c] (u.val.alloc (.cells #[.int .i64 n, .slice a es.length cap] 27)) (Ret (u.val.alloc (.cells #[.int .i64 n, .slice a es.length cap] 27)).heap.size (u.val.alloc (.cells #[.int .i64 n, .slice a es.length cap] 27)) (.int .i64 0))) := Lib.hid (by
    have := c_gameCheck (Later.self (u.val.alloc (.cells #[.int .i64 n, .slice a es.length cap] 27))) n s t j c es a cap hE' (by omega) (by omega) (by omega)
    rwa [← errno_ok hp] at this)
  have q0 : ∀ w : Later (u.val.alloc (.cells #[.int .i64 n, .slice a es.length cap] 27)).heap.size (u.val.alloc (.cells #[.int .i64 n, .slice a es.length cap] 27)), w.val.cell? ⟨u.val.heap.size, 0, none⟩ = some (.int .i64 n) := fun w => (T0.out.keep w.below).c0
  have q1 : ∀ w : Later (u.val.alloc (.cells #[.int .i64 n, .slice a es.length cap] 27)).heap.size (u.val.alloc (.cells #[.int .i64 n, .slice a es.length cap] 27)), w.val.cell? ⟨u.val.heap.size, 1, none⟩ = some (.slice a es.length cap) := fun w => (T0.out.keep w.below).c1
  have hmm := @run_makeMap Try.prog
  have HG := Lib.hid hG; have HMv := Lib.hid hmv; have HE := Lib.hid hE'
  clear h hp hE' hG hmv
  go_enter Try.func17, Try.ntmps17
  go_upto_region 5 with (first | (go_at_call 18; refine (K0.out).mono ?_; rintro e _ ⟨rfl, v1, rfl⟩))
  -- the last ground: the world with the book and the table
  have hbx : u.val.heap.size < v1.val.heap.size := by have := v1.size; simp at this; omega
  have T1 := Lib.hid (T0.out.keep v1.below)
  have E1 : Hid (EdgesAt v1.val.heap.size v1.val a es) := Lib.hid (HE.out.to v1)
  have HL1 : Hid (∀ w' : World, Below v1.val.heap.size v1.val w' → ∃ u' : Later B W, u'.val = w') := Lib.hid (fun w' h => HV.out (v1.to w' (h.mono v1.size)))
  clear q0 q1 K0 HV HE T0 hmm
  generalize hgg : u.val.heap.size = gg at *
  generalize v1.val = V at *
  clear hgg v1 u
  have R2 : Hid (RowAt ((V.alloc (.map #[] 0)).alloc (.cells #[.int .i64 n, .slice a es.length cap, .int .i64 s, .int .i64 t, .map (some V.heap.size)] 116)) (V.heap.size + 1) 116 #[.int .i64 n, .slice a es.length cap, .int .i64 s, .int .i64 t, .map (some V.heap.size)]) := Lib.hid (by
    have := RowAt.new (V.alloc (.map #[] 0)) 116 #[.int .i64 n, .slice a es.length cap, .int .i64 s, .int .i64 t, .map (some V.heap.size)]
    simpa using this)
  have B2 : Hid (Below V.heap.size V ((V.alloc (.map #[] 0)).alloc (.cells #[.int .i64 n, .slice a es.length cap, .int .i64 s, .int .i64 t, .map (some V.heap.size)] 116))) := Lib.hid (((Below.refl _ _).alloc (Nat.le_refl _) _).alloc (by simp) _)
  have T2 := Lib.hid (T1.out.keep B2.out)
  have M2 : Hid (Memo (led n es s t) es.length ((V.alloc (.map #[] 0)).alloc (.cells #[.int .i64 n, .slice a es.length cap, .int .i64 s, .int .i64 t, .map (some V.heap.size)] 116)) V.heap.size 0) := Lib.hid ((Memo.new _ _ V).keep ((Below.refl _ _).alloc (Nat.le_refl _) _))
  have E2 : Hid (EdgesAt V.heap.size ((V.alloc (.map #[] 0)).alloc (.cells #[.int .i64 n, .slice a es.length cap, .int .i64 s, .int .i64 t, .map (some V.heap.size)] 116)) a es) := Lib.hid (E1.out.later B2.out)
  have hz2 : V.heap.size ≤ ((V.alloc (.map #[] 0)).alloc (.cells #[.int .i64 n, .slice a es.length cap, .int .i64 s, .int .i64 t, .map (some V.heap.size)] 116)).heap.size := by simp; omega
  generalize (V.alloc (.map #[] 0)).alloc (.cells #[.int .i64 n, .slice a es.length cap, .int .i64 s, .int .i64 t, .map (some V.heap.size)] 116) = w2 at *
  have HL2 : Hid (∀ x : Beside V.heap.size w2, ∃ u' : Later B W, u'.val = x.val) := Lib.hid (fun x => HL1.out x.val (B2.out.trans (x.below (Nat.le_refl _) hz2)))
  generalize hb : V.heap.size = b at *
  clear hb B2 E1 T1 HL1 V
  have hgb : gg ≠ b := by omega
  have hgt : b + 1 ≠ b := by omega
  have c0 : ∀ x : Beside b w2, x.val.cell? ⟨b + 1, 0, none⟩ = some (.int .i64 n) := fun x => (R2.out.beside x hgt).cell 0
  have c1 : ∀ x : Beside b w2, x.val.cell? ⟨b + 1, 1, none⟩ = some (.slice a es.length cap) := fun x => (R2.out.beside x hgt).cell 1
  have c2 : ∀ x : Beside b w2, x.val.cell? ⟨b + 1, 2, none⟩ = some (.int .i64 s) := fun x => (R2.out.beside x hgt).cell 2
  have c3 : ∀ x : Beside b w2, x.val.cell? ⟨b + 1, 3, none⟩ = some (.int .i64 t) := fun x => (R2.out.beside x hgt).cell 3
  have c4 : ∀ x : Beside b w2, x.val.cell? ⟨b + 1, 4, none⟩ = some (.map (some b)) := fun x => (R2.out.beside x hgt).cell 4
  have q0 : ∀ x : Beside b w2, x.val.cell? ⟨gg, 0, none⟩ = some (.int .i64 n) := fun x => (RowAt.beside (vs := #[.int .i64 n, .slice a es.length cap]) T2.out x hgb).cell 0
  have q1 : ∀ x : Beside b w2, x.val.cell? ⟨gg, 1, none⟩ = some (.slice a es.length cap) := fun x => (RowAt.beside (vs := #[.int .i64 n, .slice a es.length cap]) T2.out x hgb).cell 1
  have EX : Hid (∀ x : Beside b w2, EdgesAt b x.val a es) := Lib.hid (fun x => E2.out.later (x.below (Nat.le_refl _) hz2))
  have KH : Hid (∀ (x : Beside b w2) (y : Nat), y < 256 → Calls Try.prog 90 #[.agg #[.int .i64 n, .slice a es.length cap], .int .i64 s, .int .i64 t, .int .i64 y] x.val (Ret x.val.heap.size x.val (.bool (led n es s t y)))) := Lib.hid (fun x y hy => c_hangs (Later.self x.val) n s t y es a cap ((EX.out x).mono (by have := x.size; omega)) HG.out hs ht hy)
  have KW : Hid (∀ (x : Beside b w2) (p j c q : Nat), Memo (led n es s t) es.length x.val b p → p + cost (sz (left es.length j c)) ≤ 1000000 → j < bit es.length → c < bit es.length → (q = 0 ∨ q = 1) → Calls Try.prog 89 #[.agg #[.int .i64 n, .slice a es.length cap, .int .i64 s, .int .i64 t, .map (some b)], .int .i64 j, .int .i64 c, .int .i64 q] x.val (WinsPost (led n es s t) es.length x.val b (p + cost (sz (left es.length j c))) (.bool (win (led n es s t) es.length j c (decide (q = 1)))))) := Lib.hid (fun x p j c q hM hle hj hc hq => c_wins n s t es a cap HG.out hs ht b b (Nat.le_refl _) _ x.val p j c q (EX.out x) hM rfl hle hj hc hq)
  clear R2 T2 E2 EX hz2
  obtain ⟨x0, hx0⟩ : ∃ x : Beside b w2, x.val = w2 := ⟨Beside.self _, rfl⟩
  have M3 : Hid (Memo (led n es s t) es.length x0.val b 0) := Lib.hid (by rw [hx0]; exact M2.out)
  rw [← hx0]
  clear hx0 M2
  have hy' : nand (bit es.length - 1) c < 256 := nand_lt (bit es.length - 1) c 8 (by show bit es.length - 1 < 256; omega)
  have o2 := i64_andNot (bit es.length - 1) c (by omega) (by omega)
  rw [show ((bit es.length - 1 : Nat) : Int) = (bit es.length : Int) - 1 by omega] at o2
  have K1 := Lib.hid (KH.out x0 j (by omega))
  have HOv : Hid (overV (led n es s t) es.length j c = if led n es s t j = true then 1 else if led n es s t (nand (bit es.length - 1) c) = true then 0 else 2) := Lib.hid rfl
  rcases btf (led n es s t j) with g1 | g1
  · have hie := HMv.out.1 (by rw [HOv.out, if_pos g1]; decide)
    obtain ⟨hi, he⟩ := hie
    subst hi he
    rw [g1] at K1
    clear g1 HOv HMv o2
    go_wp2_with (first | (go_at_call 90; refine (K1.out).mono ?_; rintro e _ ⟨rfl, v1, rfl⟩))
    go_ret2
    exact Ret.of (HL2.out (x0.later v1)) rfl
  rw [g1] at K1
  have K2 : Hid (∀ v : Later x0.val.heap.size x0.val, Calls Try.prog 90 #[.agg #[.int .i64 n, .slice a es.length cap], .int .i64 s, .int .i64 t, .int .i64 (nand (bit es.length - 1) c : Nat)] v.val (Ret v.val.heap.size v.val (.bool (led n es s t (nand (bit es.length - 1) c))))) := Lib.hid (fun v => KH.out (x0.later v) (nand (bit es.length - 1) c) hy')
  have q0' : ∀ v : Later x0.val.heap.size x0.val, v.val.cell? ⟨gg, 0, none⟩ = some (.int .i64 n) := fun v => q0 (x0.later v)
  have q1' : ∀ v : Later x0.val.heap.size x0.val, v.val.cell? ⟨gg, 1, none⟩ = some (.slice a es.length cap) := fun v => q1 (x0.later v)
  rcases btf (led n es s t (nand (bit es.length - 1) c)) with g2 | g2
  case inr =>
    have hie := HMv.out.1 (by rw [HOv.out, if_neg (by simp [g1]), if_neg (by simp [g2])]; decide)
    obtain ⟨hi, he⟩ := hie
    subst hi he
    rw [g2] at K2
    clear g1 g2 HOv HMv
    go_wp2_with (first | (go_at_call 90; ((with_reducible refine (K1.out).mono ?_); rintro e _ ⟨rfl, v1, rfl⟩)) | (go_at_call 90; refine (K2.out _).mono ?_; rintro e _ ⟨rfl, v2, rfl⟩))
    go_ret2
    exact Ret.of (HL2.out ((x0.later v1).later v2)) rfl
  have HO : Hid (overV (led n es s t) es.length j c = 0) := Lib.hid (by rw [HOv.out, if_neg (by simp [g1]), if_pos g2])
  rw [g2] at K2
  clear g1 g2 HOv
  go_upto_region 8 with (first | (go_at_call 90; ((with_reducible refine (K1.out).mono ?_); rintro e _ ⟨rfl, v1, rfl⟩)) | (go_at_call 90; refine (K2.out _).mono ?_; rintro e _ ⟨rfl, v2, rfl⟩))
  have M4 : Hid (Memo (led n es s t) es.length v2.val b 0) := Lib.hid ((M3.out.keep v1.below).keep v2.below)
  obtain ⟨x1, hx1⟩ : ∃ x : Beside b w2, x.val = v2.val := ⟨(x0.later v1).later v2, rfl⟩
  rw [← hx1] at M4 ⊢
  clear hx1 v2 v1 q0' q1' K1 K2 M3 x0 o2 hy'
  cases first
  · as_aux_lemma =>
        go_wp2
        go_loopw [56] (fun r wr => ∃ (d p : Nat) (y : Beside b w2), d ≤ es.length ∧ r = .int .i64 d ∧ wr = y.val ∧ Hid (Memo (led n es s t) es.length y.val b p) ∧ p ≤ d * 13700 ∧ Hid (∀ l, l < d → ¬ mvOk (led n es s t) es.length j c false l)) (fun r _ => es.length - (intOf r).toNat)
        case atStart => exact ⟨0, 0, x1, by omega, rfl, rfl, M4, by omega, Lib.hid (fun l hl => by omega)⟩
        case round =>
          clear M4 x1
          obtain ⟨d, p, y, hd, rfl, rfl, HMy, hp, HNo⟩ := hrel
          by_cases hlt : d < es.length
          · have hbd := bit_lt d (by omega)
            have hbdc := bit_cast d
            have hjc : j ||| c < 256 := or_lt j c (by omega) (by omega)
            have o3 := i64_or j c (by omega) (by omega)
            have o4 := i64_and (j ||| c) (bit d) (by omega) (by omega)
            have hz := and_bit_zero (j ||| c) d
            have hab : (j ||| c) &&& bit d < 256 := Nat.lt_of_le_of_lt Nat.and_le_left hjc
            rcases btf ((j ||| c).testBit d) with g1 | g1
            · have HN2 := Lib.hid (mv_next HNo.out (fun h => by have := h.1; rw [g1] at this; cases this))
              have hne : (j ||| c) &&& bit d ≠ 0 := fun h => by have := hz.1 h; rw [g1] at this; cases this
              have d1 : ((((j ||| c) &&& bit d : Nat) : Int) != 0) = true := by rw [bne_iff_ne]; omega
              clear g1 hz hne HNo
              generalize (j ||| c) &&& bit d = ab at *
              go_wp2
              go_roundw
              case rel => exact ⟨d+1, p, y, by omega, by go_num, rfl, HMy, by omega, HN2⟩
              case measure => simp [intOf]; omega
            · have he0 : (j ||| c) &&& bit d = 0 := hz.2 g1
              have d1 : ((((j ||| c) &&& bit d : Nat) : Int) != 0) = false := by rw [he0]; rfl
              have hszl : sz (left es.length j (c ||| bit d)) + 1 = sz (left es.length j c) := by
                rw [left_cut]
                exact sz_without _ d (left_lt he8 j c) (by omega) (by rw [left_testBit, g1]; simp [hlt])
              have hs8 := sz_le (left es.length j c)
              have hc7 := cost7 (sz (left es.length j (c ||| bit d))) (by omega)
              have hnew : c ||| bit d < bit es.length := or_lt_bit hc (bit_lt_bit hlt)
              have o5 := i64_or c (bit d) (by omega) (by omega)
              have hor : c ||| bit d < 256 := or_lt _ _ (by omega) (by omega)
              have K3 : Hid (Calls Try.prog 89 #[.agg #[.int .i64 n, .slice a es.length cap, .int .i64 s, .int .i64 t, .map (some b)], .int .i64 (j : Nat), .int .i64 ((c ||| bit d) : Nat), .int .i64 1] y.val (WinsPost (led n es s t) es.length y.val b (p + cost (sz (left es.length j (c ||| bit d)))) (.bool (win (led n es s t) es.length j (c ||| bit d) true)))) := Lib.hid (KW.out y p j (c ||| bit d) 1 HMy.out (by omega) hj hnew (.inr rfl))
              have HYes : Hid (win (led n es s t) es.length j (c ||| bit d) true = false → i = d ∧ e = 0) := Lib.hid (fun h => HMv.out.hit HO.out hlt ⟨g1, .inr ⟨rfl, h⟩⟩ HNo.out)
              have HNx : Hid (win (led n es s t) es.length j (c ||| bit d) true = true → ∀ l, l < d + 1 → ¬ mvOk (led n es s t) es.length j c false l) := Lib.hid (fun h => mv_next HNo.out (fun hk => by rcases hk.2 with ⟨h1, h2⟩ | ⟨h1, h2⟩ <;> simp_all))
              clear g1 hz he0 hszl hs8 hnew HMy HNo
              generalize (j ||| c) &&& bit d = ab at *
              generalize win (led n es s t) es.length j (c ||| bit d) true = wn at *
              cases wn
              · obtain ⟨hi, he⟩ := HYes.out rfl
                subst hi he
                clear HYes HNx
                go_wp2_with (first | (go_at_call 89; refine (K3.out).mono ?_; rintro e w3 ⟨rfl, hgr, hme⟩; obtain ⟨y2, rfl⟩ : ∃ y2 : Beside b w2, y2.val = w3 := ⟨y.of w3 hgr, rfl⟩; have HME := Lib.hid hme; clear hme hgr))
                go_ret2
                exact Ret.of (HL2.out y2) rfl
                
              · have HN2 := Lib.hid (HNx.out rfl)
                
                clear HYes HNx
                go_wp2_with (first | (go_at_call 89; refine (K3.out).mono ?_; rintro e w3 ⟨rfl, hgr, hme⟩; obtain ⟨y2, rfl⟩ : ∃ y2 : Beside b w2, y2.val = w3 := ⟨y.of w3 hgr, rfl⟩; have HME := Lib.hid hme; clear hme hgr))
                go_roundw
                case rel => exact ⟨d+1, _, y2, by omega, by go_num, rfl, HME, by omega, HN2⟩
                case measure => simp [intOf]; omega
          · have HMs : Hid (i = 0 ∧ e = 5) := Lib.hid (HMv.out.miss HO.out (fun l hl => HNo.out l (by omega)))
            obtain ⟨hi, he⟩ := HMs.out
            subst hi he
            clear HMs
            go_wp2
            go_ret2
            exact Ret.of (HL2.out y) rfl
  · as_aux_lemma =>
        go_wp2
        go_loopw [56] (fun r wr => ∃ (d p : Nat) (y : Beside b w2), d ≤ es.length ∧ r = .int .i64 d ∧ wr = y.val ∧ Hid (Memo (led n es s t) es.length y.val b p) ∧ p ≤ d * 13700 ∧ Hid (∀ l, l < d → ¬ mvOk (led n es s t) es.length j c true l)) (fun r _ => es.length - (intOf r).toNat)
        case atStart => exact ⟨0, 0, x1, by omega, rfl, rfl, M4, by omega, Lib.hid (fun l hl => by omega)⟩
        case round =>
          clear M4 x1
          obtain ⟨d, p, y, hd, rfl, rfl, HMy, hp, HNo⟩ := hrel
          by_cases hlt : d < es.length
          · have hbd := bit_lt d (by omega)
            have hbdc := bit_cast d
            have hjc : j ||| c < 256 := or_lt j c (by omega) (by omega)
            have o3 := i64_or j c (by omega) (by omega)
            have o4 := i64_and (j ||| c) (bit d) (by omega) (by omega)
            have hz := and_bit_zero (j ||| c) d
            have hab : (j ||| c) &&& bit d < 256 := Nat.lt_of_le_of_lt Nat.and_le_left hjc
            rcases btf ((j ||| c).testBit d) with g1 | g1
            · have HN2 := Lib.hid (mv_next HNo.out (fun h => by have := h.1; rw [g1] at this; cases this))
              have hne : (j ||| c) &&& bit d ≠ 0 := fun h => by have := hz.1 h; rw [g1] at this; cases this
              have d1 : ((((j ||| c) &&& bit d : Nat) : Int) != 0) = true := by rw [bne_iff_ne]; omega
              clear g1 hz hne HNo
              generalize (j ||| c) &&& bit d = ab at *
              go_wp2
              go_roundw
              case rel => exact ⟨d+1, p, y, by omega, by go_num, rfl, HMy, by omega, HN2⟩
              case measure => simp [intOf]; omega
            · have he0 : (j ||| c) &&& bit d = 0 := hz.2 g1
              have d1 : ((((j ||| c) &&& bit d : Nat) : Int) != 0) = false := by rw [he0]; rfl
              have hszl : sz (left es.length (j ||| bit d) c) + 1 = sz (left es.length j c) := by
                rw [left_join]
                exact sz_without _ d (left_lt he8 j c) (by omega) (by rw [left_testBit, g1]; simp [hlt])
              have hs8 := sz_le (left es.length j c)
              have hc7 := cost7 (sz (left es.length (j ||| bit d) c)) (by omega)
              have hnew : j ||| bit d < bit es.length := or_lt_bit hj (bit_lt_bit hlt)
              have o5 := i64_or j (bit d) (by omega) (by omega)
              have hor : j ||| bit d < 256 := or_lt _ _ (by omega) (by omega)
              have K3 : Hid (Calls Try.prog 89 #[.agg #[.int .i64 n, .slice a es.length cap, .int .i64 s, .int .i64 t, .map (some b)], .int .i64 ((j ||| bit d) : Nat), .int .i64 (c : Nat), .int .i64 0] y.val (WinsPost (led n es s t) es.length y.val b (p + cost (sz (left es.length (j ||| bit d) c))) (.bool (win (led n es s t) es.length (j ||| bit d) c false)))) := Lib.hid (KW.out y p (j ||| bit d) c 0 HMy.out (by omega) hnew hc (.inl rfl))
              have HYes : Hid (win (led n es s t) es.length (j ||| bit d) c false = true → i = d ∧ e = 0) := Lib.hid (fun h => HMv.out.hit HO.out hlt ⟨g1, .inl ⟨rfl, h⟩⟩ HNo.out)
              have HNx : Hid (win (led n es s t) es.length (j ||| bit d) c false = false → ∀ l, l < d + 1 → ¬ mvOk (led n es s t) es.length j c true l) := Lib.hid (fun h => mv_next HNo.out (fun hk => by rcases hk.2 with ⟨h1, h2⟩ | ⟨h1, h2⟩ <;> simp_all))
              clear g1 hz he0 hszl hs8 hnew HMy HNo
              generalize (j ||| c) &&& bit d = ab at *
              generalize win (led n es s t) es.length (j ||| bit d) c false = wn at *
              cases wn
              · have HN2 := Lib.hid (HNx.out rfl)
                
                clear HYes HNx
                go_wp2_with (first | (go_at_call 89; refine (K3.out).mono ?_; rintro e w3 ⟨rfl, hgr, hme⟩; obtain ⟨y2, rfl⟩ : ∃ y2 : Beside b w2, y2.val = w3 := ⟨y.of w3 hgr, rfl⟩; have HME := Lib.hid hme; clear hme hgr))
                go_roundw
                case rel => exact ⟨d+1, _, y2, by omega, by go_num, rfl, HME, by omega, HN2⟩
                case measure => simp [intOf]; omega
              · obtain ⟨hi, he⟩ := HYes.out rfl
                subst hi he
                clear HYes HNx
                go_wp2_with (first | (go_at_call 89; refine (K3.out).mono ?_; rintro e w3 ⟨rfl, hgr, hme⟩; obtain ⟨y2, rfl⟩ : ∃ y2 : Beside b w2, y2.val = w3 := ⟨y.of w3 hgr, rfl⟩; have HME := Lib.hid hme; clear hme hgr))
                go_ret2
                exact Ret.of (HL2.out y2) rfl
                
          · have HMs : Hid (i = 0 ∧ e = 5) := Lib.hid (HMv.out.miss HO.out (fun l hl => HNo.out l (by omega)))
            obtain ⟨hi, he⟩ := HMs.out
            subst hi he
            clear HMs
            go_wp2
            go_ret2
            exact Ret.of (HL2.out y) rfl

end Go.Proofs.Ytcljgnmlpfddiaa
