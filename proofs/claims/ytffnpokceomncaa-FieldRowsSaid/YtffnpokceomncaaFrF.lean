
/-
  rotaref.Hang of empty rows; rotaref.IsReduced, rotaref.Nought; rows appended in a drawing region.
-/
import Derived.Test.YtffnpokceomncaaFrE
import Derived.Test.YtffnpokceomncaaFrC
namespace Go.Proofs.Ytffnpokceomncaa
open Go.RowKit
set_option linter.unusedVariables false

set_option maxRecDepth 100000 in
set_option maxHeartbeats 8000000 in
theorem c_hang0 {B : Nat} {W : World} (u : Later B W) (p : Nat) (rows : Lls) (a : Option Addr) (cap : Nat) (h : RowsI B W a rows) (hN : rows.length ≤ 64) (hrl : ∀ i, i < rows.length → (rows.getD i []).length = 0) :
    Calls Try.prog 19 #[.int .i64 p, .slice a rows.length cap] u.val (RetP B W (fun v w => ∃ m, RankIs p 0 rows.length (ent rows) m ∧ v = .int .i64 m)) := by
  have H := Lib.hid h
  have HRl := Lib.hid hrl
  clear h hrl
  go_enter Try.func19, Try.ntmps19
  go_wp2
  go_loopw [5, 6] (fun s i wr => ∃ (q : Nat) (v : Later B W), q ≤ rows.length ∧ i = .int .i64 q ∧ s = .slice none 0 0 ∧ wr = v.val) (fun _ i _ => rows.length - (intOf i).toNat)
  case atStart => exact ⟨0, u, by omega, rfl, rfl, rfl⟩
  case round =>
    clear u
    obtain ⟨q, v, hq, rfl, rfl, rfl⟩ := hrel
    by_cases hlt : q < rows.length
    · obtain ⟨be, ofe, rfl, hbe, ad', cp', hI, hn, hcell⟩ := H.out.atN hlt
      have hrk := HRl.out q hlt
      have c0 := hcell v
      rw [hrk] at c0
      have HI : Hid (IntsAt v.val.heap.size v.val ad' []) := Lib.hid (by
        have := hI.to v
        rwa [List.length_eq_zero_iff.1 hrk] at this)
      have hn' := Lib.hid hn
      clear hI hcell hrk hn
      go_upto_region 6 with (first | (at_builtin; refine wpList_copyI rfl _ _ rfl [] 0 rfl ad' cp' rfl rfl HI.out hn'.out (by decide) ?_; intro y adv cv hO) | fail)
      clear c0
      obtain ⟨en, hen⟩ : ∃ en : Int, en = -1 := ⟨_, rfl⟩
      have KL : Hid (∀ z : Later v.val.heap.size v.val, z.val = y.val → Calls Try.prog 41 #[.slice adv 0 cv] z.val (Ret v.val.heap.size v.val (.int .i64 en))) := Lib.hid (fun z hz => by
        rw [hz]
        have := c_lead (Later.self y.val) [] adv cv hO.reads (by decide) en (.inr ⟨hen, fun j hj => by simp at hj⟩)
        refine this.mono ?_
        rintro e w ⟨rfl, x, rfl⟩
        exact ⟨rfl, y.up x, rfl⟩)
      have hneg : en < 0 := by omega
      clear hen hO
      go_wp2
      go_loopw [8] (fun i wr => i = .int .i64 0 ∧ Hid (wr = y.val)) (fun _ _ => 0)
      case atStart => exact ⟨rfl, Lib.hid rfl⟩
      case round =>
        obtain ⟨rfl, HVe⟩ := hrel
        rw [HVe.out]
        clear HVe
        have KL2 := Lib.hid (KL.out y rfl)
        go_upto_region 4 with (first | (go_at_call 41; (with_reducible refine (KL2.out).mono ?_); rintro e _ ⟨rfl, z, rfl⟩) | fail)
        obtain ⟨x, hx⟩ : ∃ x : Later B W, x.val = z.val := ⟨v.up z, rfl⟩
        rw [← hx]
        clear hx
        go_wp2
        go_roundw
        case rel => exact ⟨q + 1, x, by omega, by go_num, by trivial, by first | rfl | trivial⟩
        case measure => simp [intOf]; omega
    · have hqe : q = rows.length := by omega
      subst hqe
      go_wp2
      go_ret
      exact RetP.mk v ⟨0, ⟨fun _ _ => 0, fun _ => 0, ⟨fun i hi => by omega, fun i k hi => by omega⟩, fun i hi => by omega, fun i hi => InSp.zero (fun j hj => by omega)⟩, rfl⟩
theorem c_hangA {B : Nat} {W : World} (u : Later B W) (p C : Nat) (rows : Lls) (a : Option Addr) (cap : Nat) (h : RowsI B W a rows) (hp : PrimeP p) (hN : rows.length ≤ 64) (hC : C ≤ 8) (hrl : ∀ i, i < rows.length → (rows.getD i []).length = C) (hs : Small p rows.length C (ent rows)) :
    Calls Try.prog 19 #[.int .i64 p, .slice a rows.length cap] u.val (RetP B W (fun v w => ∃ m, RankIs p C rows.length (ent rows) m ∧ v = .int .i64 m)) := by
  rcases Nat.eq_zero_or_pos C with h0 | h0
  · subst h0; exact c_hang0 u p rows a cap h hN hrl
  · exact c_hang u p C rows a cap h hp hN hC h0 hrl hs

/-- reduced rows, as they are told -/
structure RedP (C n : Nat) (M : Nat → Nat → Int) (A : Nat → Nat) : Prop where
  lt : ∀ i, i < n → A i < C
  rise : ∀ i k, i < k → k < n → A i < A k
  one : ∀ i, i < n → M i (A i) = 1
  zl : ∀ i j, i < n → j < A i → M i j = 0
  zc : ∀ i k, i < n → k < n → k ≠ i → M k (A i) = 0
theorem RdSt.red {p C N : Nat} {M0 M : Nat → Nat → Int} {n : Nat} (h : RdSt p C N M0 n M) : ∃ A, RedP C n M A := by
  obtain ⟨A, cc, rfl, hR, hcc, _⟩ := h
  have := hR.le
  exact ⟨fun i => A.getD i 0, fun i hi => by have := hR.at_lt i hi; omega, hR.rise, hR.one, hR.zl, fun i k hi hk => hR.zc i k hi (by omega)⟩

set_option maxRecDepth 100000 in
set_option maxHeartbeats 8000000 in
theorem c_isReduced {B : Nat} {W : World} (u : Later B W) (p C : Nat) (rows : Lls) (a : Option Addr) (cap : Nat) (h : RowsI B W a rows) (hm : isMatrix (p : Int) (C : Int) rows) (A : Nat → Nat) (hA : RedP C rows.length (ent rows) A) :
    Calls Try.prog 20 #[.agg #[.int .i64 p, .int .i64 C, .slice a rows.length cap]] u.val (Ret B W (.bool true)) := by
  have hn6 : rows.length ≤ 6 := hm.2.2.1
  have hC8 : C ≤ 8 := by have := hm.2.1.2; omega
  have hrl : ∀ i, i < rows.length → (rows.getD i []).length = C := fun i hi => by have := (hm.2.2.2 i hi).1; omega
  have TX : Hid (RowL (u.val.alloc (.cells #[.int .i64 p, .int .i64 C, .slice a rows.length cap] 24)) u.val.heap.size 24 [.int .i64 p, .int .i64 C, .slice a rows.length cap]) := Lib.hid (RowL.new u.val 24 _)
  have HV : Hid (∀ v : Later (u.val.alloc (.cells #[.int .i64 p, .int .i64 C, .slice a rows.length cap] 24)).heap.size (u.val.alloc (.cells #[.int .i64 p, .int .i64 C, .slice a rows.length cap] 24)), ∃ x : Later B W, x.val = v.val) := Lib.hid (fun v => ⟨(u.alloc _).up v, rfl⟩)
  have HXs : Hid (RowsI (u.val.alloc (.cells #[.int .i64 p, .int .i64 C, .slice a rows.length cap] 24)).heap.size (u.val.alloc (.cells #[.int .i64 p, .int .i64 C, .slice a rows.length cap] 24)) a rows) := Lib.hid (h.to (u.alloc _))
  have HRl := Lib.hid hrl
  have HM := Lib.hid hm
  have HA := Lib.hid hA
  clear h hm hrl hA
  go_enter Try.func20, Try.ntmps20
  go_upto_region 1 with fail
  generalize (u.val.alloc (.cells #[.int .i64 p, .int .i64 C, .slice a rows.length cap] 24)) = Y at *
  generalize u.val.heap.size = g0 at *
  clear u
  have x0 : ∀ v : Later Y.heap.size Y, v.val.cell? ⟨g0, 0, none⟩ = some (.int .i64 p) := fun v => (TX.out.keep v.below).cell rfl
  have x1 : ∀ v : Later Y.heap.size Y, v.val.cell? ⟨g0, 1, none⟩ = some (.int .i64 C) := fun v => (TX.out.keep v.below).cell rfl
  have x2 : ∀ v : Later Y.heap.size Y, v.val.cell? ⟨g0, 2, none⟩ = some (.slice a rows.length cap) := fun v => (TX.out.keep v.below).cell rfl
  obtain ⟨z, hz⟩ : ∃ z : Later Y.heap.size Y, z.val = Y := ⟨Later.self _, rfl⟩
  have KX : Hid (Calls Try.prog 10 #[.agg #[.int .i64 p, .int .i64 C, .slice a rows.length cap]] z.val (Ret Y.heap.size Y (.bool true))) := Lib.hid (by
    have := c_isMatrix z p C rows a cap HXs.out (by omega) (fun i hi => by rw [HRl.out i hi]; omega)
    rwa [decide_eq_true HM.out] at this)
  rw [← hz]
  clear hz
  have d0 := x0 z
  have d1 := x1 z
  have d2 := x2 z
  go_upto_region 3 with (first | (go_at_call 10; (with_reducible refine (KX.out).mono ?_); rintro e _ ⟨rfl, v1, rfl⟩) | fail)
  clear d0 d1 d2 KX z
  go_wp2
  go_loopw [3, 4] (fun l i wr => ∃ (k : Nat) (la : Int) (v : Later Y.heap.size Y), k ≤ rows.length ∧ i = .int .i64 k ∧ l = .int .i64 la ∧ wr = v.val ∧ Hid (k < rows.length → la < A k)) (fun _ i _ => rows.length - (intOf i).toNat)
  case atStart => exact ⟨0, -1, v1, by omega, by first | rfl | go_num, by first | rfl | go_num, rfl, Lib.hid (fun _ => by omega)⟩
  case round =>
    clear v1
    obtain ⟨k, la, v, hk, rfl, rfl, rfl, HLa⟩ := hrel
    have x2v := x2 v
    by_cases hlt : k < rows.length
    · have hla := HLa.out hlt
      obtain ⟨bA, oA, rfl, hbA, arA, crA, hIA, _, hcA⟩ := HXs.out.atN hlt
      have hrk := HRl.out k hlt
      rw [hrk] at hcA
      have hAk := HA.out.lt k hlt
      have hE : LdIs (rows.getD k []) ((A k : Nat) : Int) := .inl ⟨A k, rfl, by rw [hrk]; exact hAk, by
        have := HA.out.one k hlt
        unfold ent at this
        rw [this]; decide, fun j hj => HA.out.zl k j hlt hj⟩
      have KL : Hid (Calls Try.prog 41 #[.slice arA C crA] v.val (Ret Y.heap.size Y (.int .i64 ((A k : Nat) : Int)))) := Lib.hid (by
        have := c_lead v (rows.getD k []) arA crA hIA (by rw [hrk]; omega) _ hE
        rwa [hrk] at this)
      have hcv := hcA v
      have H1 := Lib.hid hIA
      have HcA := Lib.hid hcA
      have HN : Hid (k + 1 < rows.length → ((A k : Nat) : Int) < A (k + 1)) := Lib.hid (fun hk1 => by have := HA.out.rise k (k + 1) (by omega) hk1; omega)
      have HOne : Hid ((rows.getD k []).getD (A k) 0 = 1) := Lib.hid (HA.out.one k hlt)
      have HAk : Hid (∀ q, q < rows.length → q ≠ k → ent rows q (A k) = 0) := Lib.hid (fun q hq hne => HA.out.zc k q hlt hq hne)
      have HCl : Hid ((rows.getD k []).length = C) := Lib.hid hrk
      clear hE hIA hcA hrk
      generalize A k = ak at *
      generalize rows.getD k [] = row at *
      go_upto_region 8 with (first | (go_at_call 41; (with_reducible refine (KL.out).mono ?_); rintro e _ ⟨rfl, v1, rfl⟩) | fail)
      clear x2v hcv KL
      obtain ⟨b2, o2, rfl, hb2, hc2⟩ := H1.out.at (show ak < row.length by rw [HCl.out]; exact hAk)
      have x2v := x2 v1
      have hcv := HcA.out v1
      have hcw : v1.val.cell? ⟨b2, o2 + ak, none⟩ = some (.int .i64 1) := by
        rw [← HOne.out]
        exact hc2 v1 ak (by rw [HCl.out]; exact hAk)
      clear hc2
      go_upto_region 10 with fail
      clear x2v hcv hcw
      go_wp2
      go_loopw [6] (fun i wr => ∃ (q : Nat) (v : Later Y.heap.size Y), q ≤ rows.length ∧ i = .int .i64 q ∧ wr = v.val) (fun i _ => rows.length - (intOf i).toNat)
      case atStart => exact ⟨0, v1, by omega, by first | rfl | go_num, rfl⟩
      case round =>
        clear v1
        obtain ⟨q, v1, hq, rfl, rfl⟩ := hrel
        have x2v := x2 v1
        by_cases hqn : q < rows.length
        · obtain ⟨bB, oB, hbe, hbB, arB, crB, hIB, _, hcB⟩ := HXs.out.atN hqn
          simp only [Option.some.injEq, Addr.mk.injEq] at hbe
          obtain ⟨rfl, rfl, _⟩ := hbe
          have hrq := HRl.out q hqn
          rw [hrq] at hcB
          obtain ⟨b3, o3, rfl, hb3, hc3⟩ := hIB.at (show ak < (rows.getD q []).length by rw [hrq]; exact hAk)
          have t1 := hcB v1
          have t2 : v1.val.cell? ⟨b3, o3 + ak, none⟩ = some (.int .i64 (ent rows q ak)) := hc3 v1 ak (by rw [hrq]; exact hAk)
          rcases Nat.decEq q k with hne | he
          · have f1 : ((q : Int) != (k : Int)) = true := by rw [bne_iff_ne]; omega
            have f2 : (q != k) = true := by rw [bne_iff_ne]; exact hne
            rw [HAk.out q hqn hne] at t2
            clear hc3 hcB hIB hrq
            go_wp2
            go_roundw
            case rel => exact ⟨q + 1, v1, by omega, by go_num, by first | rfl | trivial⟩
            case measure => simp [intOf]; omega
          · subst he
            clear hc3 hcB hIB hrq
            go_wp2
            go_roundw
            case rel => exact ⟨q + 1, v1, by omega, by go_num, by first | rfl | trivial⟩
            case measure => simp [intOf]; omega
        · have hqe : q = rows.length := by omega
          subst hqe
          go_wp2
          go_roundw
          case rel => exact ⟨k + 1, (ak : Int), v1, by omega, by go_num, by first | rfl | trivial, by first | rfl | trivial, HN⟩
          case measure => simp [intOf]; omega
    · have hke : k = rows.length := by omega
      subst hke
      go_wp2
      go_ret
      exact Ret.of (HV.out v) rfl

/-- what Nought adds up -/
theorem dot_bound {p N n C : Nat} {X Y : Nat → Nat → Int} (hp : p ≤ 7) (hX : Small p N C X) (hY : Small p n C Y) {i j : Nat} (hi : i < N) (hj : j < n) : ∀ k, k ≤ C → 0 ≤ dot k (X i) (Y j) ∧ dot k (X i) (Y j) ≤ 49 * k
  | 0, _ => by unfold dot; simp [isum]
  | k + 1, hk => by
    have h1 := dot_bound hp hX hY hi hj k (by omega)
    have h2 := hX i k hi (by omega)
    have h3 := hY j k hj (by omega)
    have h4 := mul_small (a := X i k) (b := Y j k) (by omega) (by omega)
    have e : dot (k + 1) (X i) (Y j) = dot k (X i) (Y j) + X i k * Y j k := rfl
    omega

set_option maxRecDepth 100000 in
set_option maxHeartbeats 8000000 in
theorem c_nought {B : Nat} {W : World} (u : Later B W) (p C : Nat) (rx ry : Lls) (ax ay : Option Addr) (capx capy : Nat) (hx : RowsI B W ax rx) (hy : RowsI B W ay ry) (hp : PrimeP p) (hC : C ≤ 8) (hN : rx.length ≤ 64) (hn : ry.length ≤ 64)
    (hrx : ∀ i, i < rx.length → (rx.getD i []).length = C) (hry : ∀ i, i < ry.length → (ry.getD i []).length = C) (hsx : Small p rx.length C (ent rx)) (hsy : Small p ry.length C (ent ry)) (h : ∀ i k, i < rx.length → k < ry.length → Cg p (dot C (ent rx i) (ent ry k)) 0) :
    Calls Try.prog 21 #[.agg #[.int .i64 p, .int .i64 C, .slice ax rx.length capx], .agg #[.int .i64 p, .int .i64 C, .slice ay ry.length capy]] u.val (Ret B W (.bool true)) := by
  have hp7 := hp.le
  have k1 : (u.val.alloc (.cells #[.int .i64 p, .int .i64 C, .slice ax rx.length capx] 24)).heap.size = u.val.heap.size + 1 := by simp
  have TX : Hid (RowL ((u.val.alloc (.cells #[.int .i64 p, .int .i64 C, .slice ax rx.length capx] 24)).alloc (.cells #[.int .i64 p, .int .i64 C, .slice ay ry.length capy] 24)) u.val.heap.size 24 [.int .i64 p, .int .i64 C, .slice ax rx.length capx]) := Lib.hid ((RowL.new u.val 24 _).keep ((Below.refl _ _).alloc (Nat.le_refl _) _))
  have TY : Hid (RowL ((u.val.alloc (.cells #[.int .i64 p, .int .i64 C, .slice ax rx.length capx] 24)).alloc (.cells #[.int .i64 p, .int .i64 C, .slice ay ry.length capy] 24)) (u.val.heap.size + 1) 24 [.int .i64 p, .int .i64 C, .slice ay ry.length capy]) := Lib.hid (by
    have h := RowL.new (u.val.alloc (.cells #[.int .i64 p, .int .i64 C, .slice ax rx.length capx] 24)) 24 [.int .i64 p, .int .i64 C, .slice ay ry.length capy]
    rwa [k1] at h)
  have HV : Hid (∀ v : Later ((u.val.alloc (.cells #[.int .i64 p, .int .i64 C, .slice ax rx.length capx] 24)).alloc (.cells #[.int .i64 p, .int .i64 C, .slice ay ry.length capy] 24)).heap.size ((u.val.alloc (.cells #[.int .i64 p, .int .i64 C, .slice ax rx.length capx] 24)).alloc (.cells #[.int .i64 p, .int .i64 C, .slice ay ry.length capy] 24)), ∃ x : Later B W, x.val = v.val) := Lib.hid (fun v => ⟨((u.alloc _).alloc _).up v, rfl⟩)
  have HXs : Hid (RowsI ((u.val.alloc (.cells #[.int .i64 p, .int .i64 C, .slice ax rx.length capx] 24)).alloc (.cells #[.int .i64 p, .int .i64 C, .slice ay ry.length capy] 24)).heap.size ((u.val.alloc (.cells #[.int .i64 p, .int .i64 C, .slice ax rx.length capx] 24)).alloc (.cells #[.int .i64 p, .int .i64 C, .slice ay ry.length capy] 24)) ax rx) := Lib.hid (hx.to ((u.alloc _).alloc _))
  have HYs : Hid (RowsI ((u.val.alloc (.cells #[.int .i64 p, .int .i64 C, .slice ax rx.length capx] 24)).alloc (.cells #[.int .i64 p, .int .i64 C, .slice ay ry.length capy] 24)).heap.size ((u.val.alloc (.cells #[.int .i64 p, .int .i64 C, .slice ax rx.length capx] 24)).alloc (.cells #[.int .i64 p, .int .i64 C, .slice ay ry.length capy] 24)) ay ry) := Lib.hid (hy.to ((u.alloc _).alloc _))
  have HrX := Lib.hid hrx
  have HrY := Lib.hid hry
  have HsX := Lib.hid hsx
  have HsY := Lib.hid hsy
  have H := Lib.hid h
  clear hx hy k1 hrx hry hsx hsy h
  go_enter Try.func21, Try.ntmps21
  go_upto_region 1 with fail
  generalize ((u.val.alloc (.cells #[.int .i64 p, .int .i64 C, .slice ax rx.length capx] 24)).alloc (.cells #[.int .i64 p, .int .i64 C, .slice ay ry.length capy] 24)) = Y at *
  generalize u.val.heap.size = g0 at *
  clear u
  have x0 : ∀ v : Later Y.heap.size Y, v.val.cell? ⟨g0, 0, none⟩ = some (.int .i64 p) := fun v => (TX.out.keep v.below).cell rfl
  have x1 : ∀ v : Later Y.heap.size Y, v.val.cell? ⟨g0, 1, none⟩ = some (.int .i64 C) := fun v => (TX.out.keep v.below).cell rfl
  have x2 : ∀ v : Later Y.heap.size Y, v.val.cell? ⟨g0, 2, none⟩ = some (.slice ax rx.length capx) := fun v => (TX.out.keep v.below).cell rfl
  have y2 : ∀ v : Later Y.heap.size Y, v.val.cell? ⟨g0 + 1, 2, none⟩ = some (.slice ay ry.length capy) := fun v => (TY.out.keep v.below).cell rfl
  obtain ⟨z, hz⟩ : ∃ z : Later Y.heap.size Y, z.val = Y := ⟨Later.self _, rfl⟩
  rw [← hz]
  clear hz
  go_wp2
  go_loopw [5] (fun i wr => ∃ (k : Nat) (v : Later Y.heap.size Y), k ≤ rx.length ∧ i = .int .i64 k ∧ wr = v.val) (fun i _ => rx.length - (intOf i).toNat)
  case atStart => exact ⟨0, z, by omega, by first | rfl | go_num, rfl⟩
  case round =>
    clear z
    obtain ⟨k, v, hk, rfl, rfl⟩ := hrel
    have x2v := x2 v
    by_cases hlt : k < rx.length
    · go_wp2
      clear x2v
      go_loopw [6] (fun i wr => ∃ (q : Nat) (v : Later Y.heap.size Y), q ≤ ry.length ∧ i = .int .i64 q ∧ wr = v.val) (fun i _ => ry.length - (intOf i).toNat)
      case atStart => exact ⟨0, v, by omega, by first | rfl | go_num, rfl⟩
      case round =>
        clear v
        obtain ⟨q, v, hq, rfl, rfl⟩ := hrel
        have y2v := y2 v
        by_cases hql : q < ry.length
        · go_wp2
          clear y2v
          go_loopw [7, 8] (fun s i wr => ∃ (j : Nat) (v : Later Y.heap.size Y), j ≤ C ∧ i = .int .i64 j ∧ s = .int .i64 (dot j (ent rx k) (ent ry q)) ∧ wr = v.val) (fun _ i _ => C - (intOf i).toNat)
          case atStart => exact ⟨0, v, by omega, by first | rfl | go_num, by first | rfl | simp [dot, isum], rfl⟩
          case round =>
            clear v
            obtain ⟨j, v, hj, rfl, rfl, rfl⟩ := hrel
            have x1v := x1 v
            have hb := dot_bound hp7.2 HsX.out HsY.out hlt hql j hj
            by_cases hjC : j < C
            · obtain ⟨bX, oX, rfl, hbX, arX, crX, hIX, _, hcX⟩ := HXs.out.atN hlt
              have hlX := HrX.out k hlt
              obtain ⟨bX2, oX2, rfl, hbX2, hcX2⟩ := hIX.at (show j < (rx.getD k []).length by omega)
              obtain ⟨bY, oY, rfl, hbY, arY, crY, hIY, _, hcY⟩ := HYs.out.atN hql
              have hlY := HrY.out q hql
              obtain ⟨bY2, oY2, rfl, hbY2, hcY2⟩ := hIY.at (show j < (ry.getD q []).length by omega)
              rw [hlX] at hcX
              rw [hlY] at hcY
              have m3 : ∀ w : Later Y.heap.size Y, w.val.cell? ⟨bX2, oX2 + j, none⟩ = some (.int .i64 (ent rx k j)) := fun w => hcX2 w j (by omega)
              have m6 : ∀ w : Later Y.heap.size Y, w.val.cell? ⟨bY2, oY2 + j, none⟩ = some (.int .i64 (ent ry q j)) := fun w => hcY2 w j (by omega)
              have HSt : Hid (dot (j + 1) (ent rx k) (ent ry q) = dot j (ent rx k) (ent ry q) + ent rx k j * ent ry q j) := Lib.hid rfl
              have hx1 := HsX.out k j hlt hjC
              have hy1 := HsY.out q j hql hjC
              have ms := mul_small (a := ent rx k j) (b := ent ry q j) (by omega) (by omega)
              have w1 := IntWalk.i64_in (ent rx k j * ent ry q j) (by omega)
              have w2 := IntWalk.i64_in (dot j (ent rx k) (ent ry q) + ent rx k j * ent ry q j) (by omega)
              clear hcX2 hcY2 hIX hIY hlX hlY
              generalize dot j (ent rx k) (ent ry q) = pc at *
              generalize ent rx k j = xq at *
              generalize ent ry q j = yq at *
              go_wp2
              clear x1v
              refine wp_region_later v (by kernel_rfl) (by kernel_rfl) (fun _ => ?_)
              repeat (first | go_big_quiet_step ((fail)) | (refine wpQuiet_step (fun K hK => ?_); go_simp; refine ⟨_, fun _ => rfl, ?_⟩; refine hK _ ?_; clear hK K))
              refine wpQuiet_nil ?_
              intro v
              go_wp2
              go_roundw
              case rel => exact ⟨j + 1, v, by omega, by go_num, by rw [HSt.out], by first | rfl | trivial⟩
              case measure => simp [intOf]; omega
            · have hje : j = C := by omega
              subst hje
              have hp0 : (p : Int) ≠ 0 := by omega
              have hpn : p ≠ 0 := by omega
              have tm : Int.tmod (dot j (ent rx k) (ent ry q)) (p : Int) = 0 := by
                rw [Int.tmod_eq_emod_of_nonneg hb.1]
                exact Cg.zero_iff.1 (H.out k q hlt hql)
              have x0v := x0 v
              generalize dot j (ent rx k) (ent ry q) = pc at *
              go_wp2
              go_roundw
              case rel => exact ⟨q + 1, v, by omega, by go_num, by first | rfl | trivial⟩
              case measure => simp [intOf]; omega
        · have hqe : q = ry.length := by omega
          subst hqe
          go_wp2
          go_roundw
          case rel => exact ⟨k + 1, v, by omega, by go_num, by first | rfl | trivial⟩
          case measure => simp [intOf]; omega
    · have hke : k = rx.length := by omega
      subst hke
      go_wp2
      go_ret
      exact Ret.of (HV.out v) rfl

end Go.Proofs.Ytffnpokceomncaa
