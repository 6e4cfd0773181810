
/-
  rotaref.Det whole; rotaref.Column.
  field.reduced on whatever matrix of the call's own; field.Reduced, field.Rank.
  rotaref.Hang of empty rows; rotaref.IsReduced, rotaref.Nought; rows appended in a drawing region.
-/
import Derived.Test.YtffnpokceomncaaPk37
import Derived.Test.YtffnpokceomncaaPk24
import Derived.Test.YtffnpokceomncaaPk25
namespace Go.Proofs.Ytffnpokceomncaa
open Go.RowKit
set_option linter.unusedVariables false

theorem bdt_le {n : Nat} (h : n ≤ 6) : bdt n ≤ 1835008 := by
  have : n = 0 ∨ n = 1 ∨ n = 2 ∨ n = 3 ∨ n = 4 ∨ n = 5 ∨ n = 6 := by omega
  rcases this with rfl | rfl | rfl | rfl | rfl | rfl | rfl <;> decide
theorem c_detAll (bn bs bx bf B0 : Nat) (W : World) (n p : Nat) (rows : Lls) (a : Option Addr) (cap : Nat) (H : DetOk bn bs bx bf B0 W n p rows a cap) : ∀ f, DetP bn bs bx bf B0 W n p rows a cap f
  | 0 => c_det0 bn bs bx bf B0 W n p rows a cap H
  | f + 1 => c_detStep bn bs bx bf B0 W n p rows a cap H f (c_detAll bn bs bx bf B0 W n p rows a cap H f)

set_option maxRecDepth 100000 in
set_option maxHeartbeats 8000000 in
theorem c_refDet {B : Nat} {W : World} (u : Later B W) (p : Nat) (rows : Lls) (a : Option Addr) (cap : Nat) (h : RowsI B W a rows) (hp : PrimeP p) (hm : isMatrix (p : Int) (rows.length : Int) rows) :
    Calls Try.prog 11 #[.agg #[.int .i64 p, .int .i64 rows.length, .slice a rows.length cap]] u.val (Ret B W (.int .i64 ((dt (ent rows) rows.length rows.length 0 0) % (p : Int)))) := by
  have hB := u.size
  have hp7 := hp.le
  have hn6 : rows.length ≤ 6 := hm.2.2.1
  have hrl : ∀ i, i < rows.length → (rows.getD i []).length = rows.length := fun i hi => by have := (hm.2.2.2 i hi).1; omega
  have hsm : Small p rows.length rows.length (ent rows) := fun i j hi hj => (hm.2.2.2 i hi).2 j (by rw [hrl i hi]; exact hj)
  obtain ⟨res, hres⟩ : ∃ res, res = dt (ent rows) rows.length rows.length 0 0 % (p : Int) := ⟨_, rfl⟩
  have HRes := Lib.hid hres
  rw [← hres]
  obtain ⟨n, hn⟩ : ∃ n, rows.length = n := ⟨_, rfl⟩
  rw [hn] at hn6 hrl hsm HRes ⊢
  have j1 : (u.val.alloc (.cells #[.int .i64 p, .int .i64 n, .slice a n cap] 24)).heap.size = u.val.heap.size + 1 := by simp
  have j2 : ((u.val.alloc (.cells #[.int .i64 p, .int .i64 n, .slice a n cap] 24)).alloc (.cells #[.int .i64 n] 3)).heap.size = u.val.heap.size + 1 + 1 := by simp
  have j3 : (((u.val.alloc (.cells #[.int .i64 p, .int .i64 n, .slice a n cap] 24)).alloc (.cells #[.int .i64 n] 3)).alloc (.cells #[.int .i64 0] 3)).heap.size = u.val.heap.size + 1 + 1 + 1 := by simp
  have HZs : Hid (((((u.val.alloc (.cells #[.int .i64 p, .int .i64 n, .slice a n cap] 24)).alloc (.cells #[.int .i64 n] 3)).alloc (.cells #[.int .i64 0] 3)).alloc (.cells #[.func (.func 37) #[] #[.pointer (some ⟨u.val.heap.size + 1, 0, none⟩), .pointer (some ⟨u.val.heap.size + 1 + 1, 0, none⟩), .pointer (some ⟨u.val.heap.size, 0, none⟩), .pointer (some ⟨u.val.heap.size + 1 + 1 + 1, 0, none⟩)]] 61)).heap.size = u.val.heap.size + 4) := Lib.hid (by simp)
  have TX : Hid (RowL ((((u.val.alloc (.cells #[.int .i64 p, .int .i64 n, .slice a n cap] 24)).alloc (.cells #[.int .i64 n] 3)).alloc (.cells #[.int .i64 0] 3)).alloc (.cells #[.func (.func 37) #[] #[.pointer (some ⟨u.val.heap.size + 1, 0, none⟩), .pointer (some ⟨u.val.heap.size + 1 + 1, 0, none⟩), .pointer (some ⟨u.val.heap.size, 0, none⟩), .pointer (some ⟨u.val.heap.size + 1 + 1 + 1, 0, none⟩)]] 61)) u.val.heap.size 24 [.int .i64 p, .int .i64 n, .slice a n cap]) := Lib.hid ((((RowL.new u.val 24 _).keep ((Below.refl _ _).alloc (Nat.le_refl _) _)).keep ((Below.refl _ _).alloc (Nat.le_refl _) _)).keep ((Below.refl _ _).alloc (Nat.le_refl _) _))
  have TN : Hid (RowL ((((u.val.alloc (.cells #[.int .i64 p, .int .i64 n, .slice a n cap] 24)).alloc (.cells #[.int .i64 n] 3)).alloc (.cells #[.int .i64 0] 3)).alloc (.cells #[.func (.func 37) #[] #[.pointer (some ⟨u.val.heap.size + 1, 0, none⟩), .pointer (some ⟨u.val.heap.size + 1 + 1, 0, none⟩), .pointer (some ⟨u.val.heap.size, 0, none⟩), .pointer (some ⟨u.val.heap.size + 1 + 1 + 1, 0, none⟩)]] 61)) (u.val.heap.size + 1) 3 [.int .i64 n]) := Lib.hid (by
    have h := (RowL.new (u.val.alloc (.cells #[.int .i64 p, .int .i64 n, .slice a n cap] 24)) 3 [.int .i64 n]).keep ((Below.refl _ _).alloc (Nat.le_refl _) (.cells #[.int .i64 0] 3))
    rw [j1] at h
    exact h.keep ((Below.refl _ _).alloc (Nat.le_refl _) _))
  have TS : Hid (RowL ((((u.val.alloc (.cells #[.int .i64 p, .int .i64 n, .slice a n cap] 24)).alloc (.cells #[.int .i64 n] 3)).alloc (.cells #[.int .i64 0] 3)).alloc (.cells #[.func (.func 37) #[] #[.pointer (some ⟨u.val.heap.size + 1, 0, none⟩), .pointer (some ⟨u.val.heap.size + 1 + 1, 0, none⟩), .pointer (some ⟨u.val.heap.size, 0, none⟩), .pointer (some ⟨u.val.heap.size + 1 + 1 + 1, 0, none⟩)]] 61)) (u.val.heap.size + 1 + 1) 3 [.int .i64 0]) := Lib.hid (by
    have h := RowL.new ((u.val.alloc (.cells #[.int .i64 p, .int .i64 n, .slice a n cap] 24)).alloc (.cells #[.int .i64 n] 3)) 3 [.int .i64 0]
    rw [j2] at h
    exact h.keep ((Below.refl _ _).alloc (Nat.le_refl _) _))
  have TF : Hid (RowL ((((u.val.alloc (.cells #[.int .i64 p, .int .i64 n, .slice a n cap] 24)).alloc (.cells #[.int .i64 n] 3)).alloc (.cells #[.int .i64 0] 3)).alloc (.cells #[.func (.func 37) #[] #[.pointer (some ⟨u.val.heap.size + 1, 0, none⟩), .pointer (some ⟨u.val.heap.size + 1 + 1, 0, none⟩), .pointer (some ⟨u.val.heap.size, 0, none⟩), .pointer (some ⟨u.val.heap.size + 1 + 1 + 1, 0, none⟩)]] 61)) (u.val.heap.size + 1 + 1 + 1) 61 [.func (.func 37) #[] #[.pointer (some ⟨u.val.heap.size + 1, 0, none⟩), .pointer (some ⟨u.val.heap.size + 1 + 1, 0, none⟩), .pointer (some ⟨u.val.heap.size, 0, none⟩), .pointer (some ⟨u.val.heap.size + 1 + 1 + 1, 0, none⟩)]]) := Lib.hid (by
    have h := RowL.new (((u.val.alloc (.cells #[.int .i64 p, .int .i64 n, .slice a n cap] 24)).alloc (.cells #[.int .i64 n] 3)).alloc (.cells #[.int .i64 0] 3)) 61 [.func (.func 37) #[] #[.pointer (some ⟨u.val.heap.size + 1, 0, none⟩), .pointer (some ⟨u.val.heap.size + 1 + 1, 0, none⟩), .pointer (some ⟨u.val.heap.size, 0, none⟩), .pointer (some ⟨u.val.heap.size + 1 + 1 + 1, 0, none⟩)]]
    rwa [j3] at h)
  have HV : Hid (∀ w : World, Below (u.val.heap.size + 1 + 1) ((((u.val.alloc (.cells #[.int .i64 p, .int .i64 n, .slice a n cap] 24)).alloc (.cells #[.int .i64 n] 3)).alloc (.cells #[.int .i64 0] 3)).alloc (.cells #[.func (.func 37) #[] #[.pointer (some ⟨u.val.heap.size + 1, 0, none⟩), .pointer (some ⟨u.val.heap.size + 1 + 1, 0, none⟩), .pointer (some ⟨u.val.heap.size, 0, none⟩), .pointer (some ⟨u.val.heap.size + 1 + 1 + 1, 0, none⟩)]] 61)) w → ∃ x : Later B W, x.val = w) := Lib.hid (fun w hb => ⟨⟨w, ((((u.alloc _).alloc _).alloc _).alloc _).below.trans (hb.mono (by omega)), by have := hb.size; simp at this; omega⟩, rfl⟩)
  have HR : Hid (RowsI (u.val.heap.size + 1 + 1) ((((u.val.alloc (.cells #[.int .i64 p, .int .i64 n, .slice a n cap] 24)).alloc (.cells #[.int .i64 n] 3)).alloc (.cells #[.int .i64 0] 3)).alloc (.cells #[.func (.func 37) #[] #[.pointer (some ⟨u.val.heap.size + 1, 0, none⟩), .pointer (some ⟨u.val.heap.size + 1 + 1, 0, none⟩), .pointer (some ⟨u.val.heap.size, 0, none⟩), .pointer (some ⟨u.val.heap.size + 1 + 1 + 1, 0, none⟩)]] 61)) a rows) := Lib.hid ((h.later ((((u.alloc _).alloc _).alloc _).alloc _).below).mono (by omega))
  have hsf := fun (a : Addr) (c : Array Value) (w : World) => run_store Try.prog w a (.func (.func 37) #[] c) .plain rfl
  have hp2 : ∀ (args : Array Value) (w : World), (callFunc 37 args).run Try.prog w = .ok (.enter 37 args) w := fun _ _ => by kernel_rfl
  clear h hm hres j1 j2 j3
  go_enter Try.func11, Try.ntmps11
  go_upto_region 5 with fail
  generalize ((((u.val.alloc (.cells #[.int .i64 p, .int .i64 n, .slice a n cap] 24)).alloc (.cells #[.int .i64 n] 3)).alloc (.cells #[.int .i64 0] 3)).alloc (.cells #[.func (.func 37) #[] #[.pointer (some ⟨u.val.heap.size + 1, 0, none⟩), .pointer (some ⟨u.val.heap.size + 1 + 1, 0, none⟩), .pointer (some ⟨u.val.heap.size, 0, none⟩), .pointer (some ⟨u.val.heap.size + 1 + 1 + 1, 0, none⟩)]] 61)) = Z at *
  generalize u.val.heap.size = g0 at *
  clear hsf u
  have H : DetOk (g0 + 1) (g0 + 1 + 1) g0 (g0 + 1 + 1 + 1) (g0 + 1 + 1) Z n p rows a cap := {
    base := by have := HZs.out; omega
    prime := hp
    len := ⟨hn, hn6⟩
    small := hsm
    rl := hrl
    rows := HR.out
    cn := fun w => (TN.out.keep_at w.below (by omega)).cell rfl
    x0 := fun w => (TX.out.keep_at w.below (by omega)).cell rfl
    x2 := fun w => (TX.out.keep_at w.below (by omega)).cell rfl
    cf := TF.out.cell rfl }
  have hbn := bit_le n (by omega)
  have hbd := bdt_le hn6
  have KN := c_detAll _ _ _ _ _ _ _ _ _ _ _ H n Z 0 0 0 1 1 (World.grownBy.refl _ _) TS.out (by omega) (by omega) (.inl rfl) (by omega) (by omega)
  have KN2 : Hid (Calls Try.prog 37 #[.int .i64 0, .int .i64 0, .int .i64 1, .int .i64 1, .pointer (some ⟨g0 + 1, 0, none⟩), .pointer (some ⟨g0 + 1 + 1, 0, none⟩), .pointer (some ⟨g0, 0, none⟩), .pointer (some ⟨g0 + 1 + 1 + 1, 0, none⟩)] Z (fun e w' => e = .returned (.tuple #[]) ∧ ∃ (v : Later (g0 + 1 + 1) Z) (S : Int), w' = v.val ∧ v.val.cell? ⟨g0 + 1 + 1, 0, none⟩ = some (.int .i64 S) ∧ v.val.cell? ⟨g0, 0, none⟩ = some (.int .i64 p) ∧ S % (p : Int) = res ∧ -2000000 ≤ S ∧ S ≤ 2000000)) := Lib.hid (KN.mono (by
    rintro e w' ⟨h1, h2, S, h3, h4, h5, h6⟩
    have hb : Below (g0 + 1 + 1) Z w' := ⟨h2.os, h2.tape, h2.output, h2.size, fun k hk => h2.block k (by have := HZs.out; omega) (by simp; omega)⟩
    refine ⟨h1, ⟨w', hb, by have := h2.size; have := HZs.out; omega⟩, S, rfl, h3.cell rfl, (TX.out.keep_at hb (by omega)).cell rfl, ?_, by omega, by omega⟩
    rw [HRes.out]
    rwa [Int.zero_add, Int.one_mul, Int.one_mul] at h4))
  have cf : Z.cell? ⟨g0 + 1 + 1 + 1, 0, none⟩ = some (.func (.func 37) #[] #[.pointer (some ⟨g0 + 1, 0, none⟩), .pointer (some ⟨g0 + 1 + 1, 0, none⟩), .pointer (some ⟨g0, 0, none⟩), .pointer (some ⟨g0 + 1 + 1 + 1, 0, none⟩)]) := TF.out.cell rfl
  clear KN H TX TN TS TF HR HRes hsm hrl
  go_upto_region 6 with (first | (go_at_call 37; (with_reducible refine (KN2.out).mono ?_); rintro e _ ⟨rfl, v, S, rfl, h3, h4, h5, h6, h7⟩) | fail)
  clear cf KN2
  have hp0 : (p : Int) ≠ 0 := by omega
  have hpn : p ≠ 0 := by omega
  obtain ⟨r1, hr1⟩ : ∃ r1, r1 = Int.tmod S (p : Int) := ⟨_, rfl⟩
  have hr2 : -(p : Int) < r1 ∧ r1 < p := by
    rw [hr1]
    exact ⟨Int.lt_tmod_of_pos _ (by omega), Int.tmod_lt_of_pos _ (by omega)⟩
  have hr3 : Cg p r1 S := by
    rw [hr1, Int.tmod_def, show S - (p : Int) * S.tdiv p = S + p * (-(S.tdiv p)) by grind]
    exact Cg.more _
  have tm1 : Int.tmod S (p : Int) = r1 := hr1.symm
  have w1 := IntWalk.i64_in (r1 + (p : Int)) (by omega)
  have tm2 : Int.tmod (r1 + (p : Int)) (p : Int) = res := by
    rw [Int.tmod_eq_emod_of_nonneg (by omega), ← h5]
    have := hr3.add (Cg.p_zero (p := p))
    rw [Int.add_zero] at this
    exact this
  have q0 : ∀ w : Later v.val.heap.size v.val, w.val.cell? ⟨g0 + 1 + 1, 0, none⟩ = some (.int .i64 S) := fun w => by
    rw [World.cell?_of_block (w := v.val) (w.below.block (g0 + 1 + 1) (by have := v.below.size; have := HZs.out; omega))]; exact h3
  have q1 : ∀ w : Later v.val.heap.size v.val, w.val.cell? ⟨g0, 0, none⟩ = some (.int .i64 p) := fun w => by
    rw [World.cell?_of_block (w := v.val) (w.below.block g0 (by have := v.below.size; have := HZs.out; omega))]; exact h4
  obtain ⟨z, hz⟩ : ∃ z : Later v.val.heap.size v.val, z.val = v.val := ⟨Later.self _, rfl⟩
  rw [← hz]
  clear hz hr1 hr3 h3 h4 h5
  have HVz : Hid (∀ z : Later v.val.heap.size v.val, ∃ x : Later B W, x.val = z.val) := Lib.hid (fun z => HV.out _ (v.below.trans (z.below.mono v.size)))
  refine wp_region_later z (by kernel_rfl) (by kernel_rfl) (fun _ => ?_)
  repeat (first | go_big_quiet_step ((fail)) | (refine wpQuiet_step (fun K hK => ?_); go_simp; refine ⟨_, fun _ => rfl, ?_⟩; refine hK _ ?_; clear hK K))
  refine wpQuiet_nil ?_
  intro z
  go_wp2
  go_ret
  obtain ⟨x, hx⟩ := HVz.out z
  exact Ret.of ⟨x, hx⟩ rfl

set_option maxRecDepth 100000 in
set_option maxHeartbeats 4000000 in
theorem c_column {B : Nat} {W : World} (u : Later B W) (p c : Int) (rows : Lls) (a : Option Addr) (cap k : Nat) (h : RowsI B W a rows) (hlen : rows.length ≤ 1048576) (hk : ∀ i, i < rows.length → k < (rows.getD i []).length) (hrl : ∀ i, i < rows.length → (rows.getD i []).length ≤ 1048576) :
    Calls Try.prog 15 #[.agg #[.int .i64 p, .int .i64 c, .slice a rows.length cap], .int .i64 k] u.val (RetOwn B W (tabL rows.length (fun i => ent rows i k))) := by
  have TX : Hid (RowL (u.val.alloc (.cells #[.int .i64 p, .int .i64 c, .slice a rows.length cap] 24)) u.val.heap.size 24 [.int .i64 p, .int .i64 c, .slice a rows.length cap]) := Lib.hid (RowL.new _ _ _)
  have HV : Hid (∀ v : Later (u.val.alloc (.cells #[.int .i64 p, .int .i64 c, .slice a rows.length cap] 24)).heap.size (u.val.alloc (.cells #[.int .i64 p, .int .i64 c, .slice a rows.length cap] 24)), ∃ w : Later B W, w.val = v.val) := Lib.hid (fun v => ⟨(u.alloc _).up v, rfl⟩)
  have HBs : Hid (B ≤ (u.val.alloc (.cells #[.int .i64 p, .int .i64 c, .slice a rows.length cap] 24)).heap.size) := Lib.hid (by have := u.size; simp; omega)
  have HR : Hid (RowsI (u.val.alloc (.cells #[.int .i64 p, .int .i64 c, .slice a rows.length cap] 24)).heap.size (u.val.alloc (.cells #[.int .i64 p, .int .i64 c, .slice a rows.length cap] 24)) a rows) := Lib.hid (h.to (u.alloc _))
  have HK := Lib.hid hk
  have HRl := Lib.hid hrl
  clear h hk hrl
  go_enter Try.func15, Try.ntmps15
  go_upto_region 1 with fail
  generalize (u.val.alloc (.cells #[.int .i64 p, .int .i64 c, .slice a rows.length cap] 24)) = Y at *
  generalize u.val.heap.size = g0 at *
  clear u
  have x2 : ∀ v : Later Y.heap.size Y, v.val.cell? ⟨g0, 2, none⟩ = some (.slice a rows.length cap) := fun v => (TX.out.keep v.below).cell rfl
  obtain ⟨z, hz⟩ : ∃ z : Later Y.heap.size Y, z.val = Y := ⟨Later.self _, rfl⟩
  rw [← hz]
  clear hz
  go_wp2
  go_loopw [5, 6] (fun l i wr => ∃ (q : Nat) (v : Later Y.heap.size Y) (al : Option Addr) (cl : Nat), q ≤ rows.length ∧ l = .slice al (tabL q (fun i => ent rows i k)).length cl ∧ i = .int .i64 q ∧ wr = v.val ∧ Hid (Own Y.heap.size v.val al cl (tabL q (fun i => ent rows i k)))) (fun _ i _ => rows.length - (intOf i).toNat)
  case atStart => exact ⟨0, z, none, 0, by omega, rfl, rfl, rfl, Lib.hid (Own.nil _ _)⟩
  case round =>
    clear z
    obtain ⟨q, v, al, cl, hq, rfl, rfl, rfl, HO⟩ := hrel
    have x2v := x2 v
    by_cases hlq : q < rows.length
    · obtain ⟨be, ofe, rfl, hbe, adr, cpr, hI, hn, hcell⟩ := HR.out.atN hlq
      have hkq := HK.out q hlq
      have hrq := HRl.out q hlq
      obtain ⟨br, ofr, rfl, hbr, hcr⟩ := hI.at hkq
      have c1 := hcell v
      have c2 := hcr v k hkq
      have HEr : Hid ((rows.getD q []).getD k 0 = ent rows q k) := Lib.hid rfl
      rw [HEr.out] at c2
      have HTs : Hid (tabL (q + 1) (fun i => ent rows i k) = tabL q (fun i => ent rows i k) ++ [ent rows q k]) := Lib.hid (tabL_snoc _ _)
      have HTl : Hid ((tabL q (fun i => ent rows i k)).length = q) := Lib.hid (tabL_len _ _)
      clear hcell hcr hI HEr
      generalize rows.getD q [] = row at *
      generalize ent rows q k = ek at *
      generalize hTq : tabL q (fun i => ent rows i k) = T at *
      clear hTq
      have HOv := HO
      go_wp2_with (first | (at_builtin; refine wpList_push (B := Y.heap.size) (W := Y) (w := v.val) v.below v.size rfl _ _ rfl T al cl ek rfl HOv.out rfl (by have := HTl.out; omega) ?_; intro u2 ad2 cp2 hown) | fail)
      go_roundw
      case rel =>
        refine ⟨q + 1, u2, ad2, cp2, by omega, ?_, by go_num, rfl, ?_⟩
        · rw [HTs.out]; simp
        · rw [HTs.out]; exact Lib.hid hown
      case measure => simp [intOf]; omega
    · have hqe : q = rows.length := by omega
      subst hqe
      go_wp2
      go_ret
      obtain ⟨w, hw⟩ := HV.out v
      exact RetP.of ⟨w, hw⟩ ⟨al, cl, rfl, HO.out.mono HBs.out⟩

end Go.Proofs.Ytffnpokceomncaa

namespace Go.Proofs.Ytffnpokceomncaa
open Go.RowKit
set_option linter.unusedVariables false

theorem c_reduced {b : Nat} {X : World} (u : Later b X) (go gc N C p : Nat) (ad : Option Addr) (hd : Nat → Option Addr) (r cp : Nat → Nat) (M0 : Nat → Nat → Int)
    (hbx : RowL u.val go 24 [.int .i64 p, .int .i64 C, .slice ad N gc]) (hmx : Mtx b u.val ad gc N C hd r cp M0) (hgo : b ≤ go) (h1 : ∀ g, ad = some ⟨g, 0, none⟩ → g ≠ go) (h2 : 0 < C → ∀ i, i < N → r i ≠ go) (hp : PrimeP p) (hN : N ≤ 8) (hC : C ≤ 8) (hs : Small p N C M0) :
    Calls Try.prog 39 #[.pointer (some ⟨go, 0, none⟩)] u.val (RetP b X (RdRes b u.val.heap.size go N C p M0)) := by
  by_cases h0 : C = 0 ∨ N = 0
  · exact c_reduced_idle u go gc N C p ad hd r cp M0 hbx hmx hgo h0 hN hs
  · have hC0 : 0 < C := by omega
    have hN0 : 0 < N := by omega
    obtain ⟨g, rfl, hg1, hg2⟩ := hmx.some' hN0
    exact c_reduced_main u go g gc N C p hd r cp M0 ⟨hmx, hbx, hC0, ⟨hg1, h1 g rfl, hg2⟩, fun i hi => ⟨h2 hC0 i hi, (hmx.rlt hC0 hi).2⟩, hbx.lt⟩ hgo hp hN hC hs

/-- reduced rows of a matrix: as many, and which -/
def RdSt (p C N : Nat) (M0 : Nat → Nat → Int) (n : Nat) (M : Nat → Nat → Int) : Prop := ∃ (A : List Nat) (cc : Nat), A.length = n ∧ RdS p C N M0 M cc A ∧ cc ≤ C ∧ (cc = C ∨ A.length = N)

set_option maxRecDepth 100000 in
set_option maxHeartbeats 8000000 in
theorem c_fieldReduced {B : Nat} {W : World} (u : Later B W) (p C : Nat) (rows : Lls) (a : Option Addr) (cap : Nat) (h : RowsI B W a rows) (hp : PrimeP p) (hm : isMatrix (p : Int) (C : Int) rows) :
    Calls Try.prog 16 #[.agg #[.int .i64 p, .int .i64 C, .slice a rows.length cap]] u.val (RetP B W (fun v w => ∃ n M, RdSt p C rows.length (ent rows) n M ∧ MatM B p C n C M 0 v w)) := by
  have hB := u.size
  have hn6 : rows.length ≤ 6 := hm.2.2.1
  have hC8 : C ≤ 8 := by have := hm.2.1.2; omega
  have k1 : (u.val.alloc (.cells #[.int .i64 p, .int .i64 C, .slice a rows.length cap] 24)).heap.size = u.val.heap.size + 1 := by simp
  have TX : Hid (RowL ((u.val.alloc (.cells #[.int .i64 p, .int .i64 C, .slice a rows.length cap] 24)).alloc (.cells #[.int .i64 0, .int .i64 0, .slice none 0 0] 24)) u.val.heap.size 24 [.int .i64 p, .int .i64 C, .slice a rows.length cap]) := Lib.hid ((RowL.new u.val 24 _).keep ((Below.refl _ _).alloc (Nat.le_refl _) _))
  have TZ : Hid (RowL ((u.val.alloc (.cells #[.int .i64 p, .int .i64 C, .slice a rows.length cap] 24)).alloc (.cells #[.int .i64 0, .int .i64 0, .slice none 0 0] 24)) (u.val.heap.size + 1) 24 [.int .i64 0, .int .i64 0, .slice none 0 0]) := Lib.hid (by
    have h := RowL.new (u.val.alloc (.cells #[.int .i64 p, .int .i64 C, .slice a rows.length cap] 24)) 24 [.int .i64 0, .int .i64 0, .slice none 0 0]
    rwa [k1] at h)
  have HZ : Hid (((u.val.alloc (.cells #[.int .i64 p, .int .i64 C, .slice a rows.length cap] 24)).alloc (.cells #[.int .i64 0, .int .i64 0, .slice none 0 0] 24)).heap.size = u.val.heap.size + 1 + 1) := Lib.hid (by simp)
  have HV : Hid (∀ w : World, Below (u.val.heap.size + 1) ((u.val.alloc (.cells #[.int .i64 p, .int .i64 C, .slice a rows.length cap] 24)).alloc (.cells #[.int .i64 0, .int .i64 0, .slice none 0 0] 24)) w → ∃ x : Later B W, x.val = w) := Lib.hid (fun w hb => ⟨⟨w, ((u.alloc _).alloc _).below.trans (hb.mono (by omega)), by have := hb.size; simp at this; omega⟩, rfl⟩)
  have HXs : Hid (RowsI ((u.val.alloc (.cells #[.int .i64 p, .int .i64 C, .slice a rows.length cap] 24)).alloc (.cells #[.int .i64 0, .int .i64 0, .slice none 0 0] 24)).heap.size ((u.val.alloc (.cells #[.int .i64 p, .int .i64 C, .slice a rows.length cap] 24)).alloc (.cells #[.int .i64 0, .int .i64 0, .slice none 0 0] 24)) a rows) := Lib.hid (h.to ((u.alloc _).alloc _))
  have hrl : ∀ i, i < rows.length → (rows.getD i []).length = C := fun i hi => by have := (hm.2.2.2 i hi).1; omega
  have hsm : Small p rows.length C (ent rows) := fun i j hi hj => (hm.2.2.2 i hi).2 j (by rw [hrl i hi]; exact hj)
  have HSm := Lib.hid hsm
  have HRl := Lib.hid hrl
  have HM := Lib.hid hm
  clear h k1 hsm hrl hm
  go_enter Try.func16, Try.ntmps16
  go_upto_region 1 with fail
  generalize ((u.val.alloc (.cells #[.int .i64 p, .int .i64 C, .slice a rows.length cap] 24)).alloc (.cells #[.int .i64 0, .int .i64 0, .slice none 0 0] 24)) = Y at *
  generalize u.val.heap.size = g0 at *
  clear u
  have x0 : ∀ v : Later Y.heap.size Y, v.val.cell? ⟨g0, 0, none⟩ = some (.int .i64 p) := fun v => (TX.out.keep v.below).cell rfl
  have x1 : ∀ v : Later Y.heap.size Y, v.val.cell? ⟨g0, 1, none⟩ = some (.int .i64 C) := fun v => (TX.out.keep v.below).cell rfl
  have x2 : ∀ v : Later Y.heap.size Y, v.val.cell? ⟨g0, 2, none⟩ = some (.slice a rows.length cap) := fun v => (TX.out.keep v.below).cell rfl
  obtain ⟨z, hz⟩ : ∃ z : Later Y.heap.size Y, z.val = Y := ⟨Later.self _, rfl⟩
  have KX : Hid (Calls Try.prog 32 #[.agg #[.int .i64 p, .int .i64 C, .slice a rows.length cap]] z.val (Ret Y.heap.size Y (.int .i64 0))) := Lib.hid (by
    have := c_checkMatrix z p C rows a cap HXs.out (by omega) (fun i hi => by rw [HRl.out i hi]; omega)
    rwa [decide_eq_true HM.out] at this)
  have KT := Lib.hid (fun v : Later Y.heap.size Y => c_twin v (p : Int) (C : Int) rows a cap C HXs.out hn6 hC8 HRl.out)
  rw [← hz]
  clear hz
  have d0 := x0 z
  have d1 := x1 z
  have d2 := x2 z
  go_upto_region 5 with (first | (go_at_call 32; (with_reducible refine (KX.out).mono ?_); rintro e _ ⟨rfl, v1, rfl⟩; have q0a := x0 v1; have q1a := x1 v1; have q2a := x2 v1) | (go_at_call 34; (with_reducible refine (KT.out v1).mono ?_); rintro e _ ⟨_, rfl, ⟨ad, gc, hd, r, cp, rfl, hMx⟩, v2, rfl⟩) | fail)
  clear d0 d1 d2 KX KT q0a q1a q2a x0 x1 x2
  obtain ⟨y, hy⟩ : ∃ y : Later Y.heap.size Y, y.val = (v2.val.alloc (.cells #[.int .i64 p, .int .i64 C, .slice ad rows.length gc] 24)) := ⟨v2.alloc _, rfl⟩
  have HBx : Hid (RowL y.val v2.val.heap.size 24 [.int .i64 p, .int .i64 C, .slice ad rows.length gc]) := Lib.hid (by rw [hy]; exact RowL.new _ _ _)
  have KR : Hid (Calls Try.prog 39 #[.pointer (some ⟨v2.val.heap.size, 0, none⟩)] y.val (RetP Y.heap.size Y (RdRes Y.heap.size y.val.heap.size v2.val.heap.size rows.length C p (ent rows)))) := Lib.hid (by
    refine c_reduced y v2.val.heap.size gc rows.length C p ad hd r cp (ent rows) HBx.out (by rw [hy]; exact hMx.keep ((Below.refl _ _).alloc (Nat.le_refl _) _)) v2.size (fun g e => ?_) (fun hC i hi => ?_) hp (by omega) hC8 HSm.out
    · rcases hMx.form with ⟨e1, _⟩ | ⟨g', e1, _, h2⟩
      · rw [e] at e1; cases e1
      · rw [e] at e1; cases e1; omega
    · have := (hMx.rlt hC hi).2; omega)
  have hgo := v2.size
  rw [← hy]
  generalize v2.val.heap.size = go at *
  clear hy hMx v1 v2
  go_upto_region 6 with (first | (go_at_call 39; (with_reducible refine (KR.out).mono ?_); rintro e _ ⟨_, rfl, ⟨A, M, cc, ada, cpa, ad', gc', hd', r', cp', rfl, hO, hR, hcc, hend, hbx, hmx⟩, v3, rfl⟩) | fail)
  have HT := Lib.hid (TZ.out.keep v3.below)
  have F0 : v3.val.cell? ⟨go, 0, none⟩ = some (.int .i64 p) := hbx.cell rfl
  have F1 : v3.val.cell? ⟨go, 1, none⟩ = some (.int .i64 C) := hbx.cell rfl
  have F2 : v3.val.cell? ⟨go, 2, none⟩ = some (.slice ad' A.length gc') := hbx.cell rfl
  have Z0 : v3.val.frozen? ⟨g0 + 1, 0, none⟩ = false := HT.out.fz 0
  have Z1 : ∀ x : Value, (v3.val.setCell ⟨g0 + 1, 0, none⟩ x).frozen? ⟨g0 + 1, 1, none⟩ = false := fun x => (HT.out.set 0 x).fz 1
  have Z2 : ∀ x y : Value, ((v3.val.setCell ⟨g0 + 1, 0, none⟩ x).setCell ⟨g0 + 1, 1, none⟩ y).frozen? ⟨g0 + 1, 2, none⟩ = false := fun x y => ((HT.out.set 0 x).set 1 y).fz 2
  have G0 : v3.val.cell? ⟨g0 + 1, 0, none⟩ = some (.int .i64 0) := HT.out.cell rfl
  have G1 : ∀ x : Value, (v3.val.setCell ⟨g0 + 1, 0, none⟩ x).cell? ⟨g0 + 1, 1, none⟩ = some (.int .i64 0) := fun x => (HT.out.set 0 x).cell rfl
  have G2 : ∀ x y : Value, ((v3.val.setCell ⟨g0 + 1, 0, none⟩ x).setCell ⟨g0 + 1, 1, none⟩ y).cell? ⟨g0 + 1, 2, none⟩ = some (.slice none 0 0) := fun x y => ((HT.out.set 0 x).set 1 y).cell rfl
  have hYs := HZ.out
  have HX : Hid (∃ x : Later B W, x.val = (((v3.val.setCell ⟨g0 + 1, 0, none⟩ (.int .i64 p)).setCell ⟨g0 + 1, 1, none⟩ (.int .i64 C)).setCell ⟨g0 + 1, 2, none⟩ (.slice ad' A.length gc'))) := Lib.hid (HV.out _ ((((v3.below.mono (by omega)).trans (below_set (Nat.le_refl _) (.int .i64 p))).trans (below_set (Nat.le_refl _) (.int .i64 C))).trans (below_set (i := 2) (Nat.le_refl _) (.slice ad' A.length gc'))))
  have HMf : Hid (Mtx Y.heap.size v3.val ad' gc' A.length C hd' r' cp' M) := Lib.hid hmx
  have HSt : Hid (RdSt p C rows.length (ent rows) A.length M) := Lib.hid ⟨A, cc, rfl, hR, hcc, hend⟩
  clear hO hR hcc hend hbx hmx HBx KR TX TZ HV HXs HSm HRl HM
  go_wp2
  refine bodyPost_ret (results_row (vs := [.int .i64 p, .int .i64 C, .slice ad' A.length gc']) rfl _ _ (g0 + 1) rfl (((HT.out.set 0 _).set 1 _).set 2 _) Try.underlying24 (by kernel_rfl)) rfl ?_
  refine RetP.of HX.out ⟨A.length, M, HSt.out, ad', gc', hd', r', cp', rfl, (((HMf.out.old (by omega) _).old (by omega) _).old (by omega) _).mono (by omega)⟩

set_option maxRecDepth 100000 in
set_option maxHeartbeats 8000000 in
theorem c_fieldReduced_no {B : Nat} {W : World} (u : Later B W) (p C : Int) (rows : Lls) (a : Option Addr) (cap : Nat) (h : RowsI B W a rows) (hl : rows.length ≤ 17592186044416) (hrl : ∀ i, i < rows.length → (rows.getD i []).length ≤ 17592186044416) (hm : ¬ isMatrix p C rows) :
    Calls Try.prog 16 #[.agg #[.int .i64 p, .int .i64 C, .slice a rows.length cap]] u.val (Ret B W (.tuple #[.agg #[.int .i64 0, .int .i64 0, .slice none 0 0], .int .i64 1])) := by
  have hB := u.size
  have k1 : (u.val.alloc (.cells #[.int .i64 p, .int .i64 C, .slice a rows.length cap] 24)).heap.size = u.val.heap.size + 1 := by simp
  have TX : Hid (RowL ((u.val.alloc (.cells #[.int .i64 p, .int .i64 C, .slice a rows.length cap] 24)).alloc (.cells #[.int .i64 0, .int .i64 0, .slice none 0 0] 24)) u.val.heap.size 24 [.int .i64 p, .int .i64 C, .slice a rows.length cap]) := Lib.hid ((RowL.new u.val 24 _).keep ((Below.refl _ _).alloc (Nat.le_refl _) _))
  have TZ : Hid (RowL ((u.val.alloc (.cells #[.int .i64 p, .int .i64 C, .slice a rows.length cap] 24)).alloc (.cells #[.int .i64 0, .int .i64 0, .slice none 0 0] 24)) (u.val.heap.size + 1) 24 [.int .i64 0, .int .i64 0, .slice none 0 0]) := Lib.hid (by
    have h := RowL.new (u.val.alloc (.cells #[.int .i64 p, .int .i64 C, .slice a rows.length cap] 24)) 24 [.int .i64 0, .int .i64 0, .slice none 0 0]
    rwa [k1] at h)
  have HZ : Hid (((u.val.alloc (.cells #[.int .i64 p, .int .i64 C, .slice a rows.length cap] 24)).alloc (.cells #[.int .i64 0, .int .i64 0, .slice none 0 0] 24)).heap.size = u.val.heap.size + 1 + 1) := Lib.hid (by simp)
  have HV : Hid (∀ w : World, Below (u.val.heap.size + 1) ((u.val.alloc (.cells #[.int .i64 p, .int .i64 C, .slice a rows.length cap] 24)).alloc (.cells #[.int .i64 0, .int .i64 0, .slice none 0 0] 24)) w → ∃ x : Later B W, x.val = w) := Lib.hid (fun w hb => ⟨⟨w, ((u.alloc _).alloc _).below.trans (hb.mono (by omega)), by have := hb.size; simp at this; omega⟩, rfl⟩)
  have HXs : Hid (RowsI ((u.val.alloc (.cells #[.int .i64 p, .int .i64 C, .slice a rows.length cap] 24)).alloc (.cells #[.int .i64 0, .int .i64 0, .slice none 0 0] 24)).heap.size ((u.val.alloc (.cells #[.int .i64 p, .int .i64 C, .slice a rows.length cap] 24)).alloc (.cells #[.int .i64 0, .int .i64 0, .slice none 0 0] 24)) a rows) := Lib.hid (h.to ((u.alloc _).alloc _))
  have HRl := Lib.hid hrl
  clear h k1 hrl
  go_enter Try.func16, Try.ntmps16
  go_upto_region 1 with fail
  generalize ((u.val.alloc (.cells #[.int .i64 p, .int .i64 C, .slice a rows.length cap] 24)).alloc (.cells #[.int .i64 0, .int .i64 0, .slice none 0 0] 24)) = Y at *
  generalize u.val.heap.size = g0 at *
  clear u
  have x0 : ∀ v : Later Y.heap.size Y, v.val.cell? ⟨g0, 0, none⟩ = some (.int .i64 p) := fun v => (TX.out.keep v.below).cell rfl
  have x1 : ∀ v : Later Y.heap.size Y, v.val.cell? ⟨g0, 1, none⟩ = some (.int .i64 C) := fun v => (TX.out.keep v.below).cell rfl
  have x2 : ∀ v : Later Y.heap.size Y, v.val.cell? ⟨g0, 2, none⟩ = some (.slice a rows.length cap) := fun v => (TX.out.keep v.below).cell rfl
  obtain ⟨z, hz⟩ : ∃ z : Later Y.heap.size Y, z.val = Y := ⟨Later.self _, rfl⟩
  have KX : Hid (Calls Try.prog 32 #[.agg #[.int .i64 p, .int .i64 C, .slice a rows.length cap]] z.val (Ret Y.heap.size Y (.int .i64 1))) := Lib.hid (by
    have := c_checkMatrix z p C rows a cap HXs.out hl HRl.out
    rwa [decide_eq_false hm] at this)
  rw [← hz]
  clear hz hm
  have d0 := x0 z
  have d1 := x1 z
  have d2 := x2 z
  go_upto_region 2 with (first | (go_at_call 32; (with_reducible refine (KX.out).mono ?_); rintro e _ ⟨rfl, v3, rfl⟩) | fail)
  clear d0 d1 d2 KX x0 x1 x2
  have HT := Lib.hid (TZ.out.keep v3.below)
  have Z0 : v3.val.frozen? ⟨g0 + 1, 0, none⟩ = false := HT.out.fz 0
  have Z1 : ∀ x : Value, (v3.val.setCell ⟨g0 + 1, 0, none⟩ x).frozen? ⟨g0 + 1, 1, none⟩ = false := fun x => (HT.out.set 0 x).fz 1
  have Z2 : ∀ x y : Value, ((v3.val.setCell ⟨g0 + 1, 0, none⟩ x).setCell ⟨g0 + 1, 1, none⟩ y).frozen? ⟨g0 + 1, 2, none⟩ = false := fun x y => ((HT.out.set 0 x).set 1 y).fz 2
  have G0 : v3.val.cell? ⟨g0 + 1, 0, none⟩ = some (.int .i64 0) := HT.out.cell rfl
  have G1 : ∀ x : Value, (v3.val.setCell ⟨g0 + 1, 0, none⟩ x).cell? ⟨g0 + 1, 1, none⟩ = some (.int .i64 0) := fun x => (HT.out.set 0 x).cell rfl
  have G2 : ∀ x y : Value, ((v3.val.setCell ⟨g0 + 1, 0, none⟩ x).setCell ⟨g0 + 1, 1, none⟩ y).cell? ⟨g0 + 1, 2, none⟩ = some (.slice none 0 0) := fun x y => ((HT.out.set 0 x).set 1 y).cell rfl
  have hYs := HZ.out
  have HX : Hid (∃ x : Later B W, x.val = (((v3.val.setCell ⟨g0 + 1, 0, none⟩ (.int .i64 0)).setCell ⟨g0 + 1, 1, none⟩ (.int .i64 0)).setCell ⟨g0 + 1, 2, none⟩ (.slice none 0 0))) := Lib.hid (HV.out _ ((((v3.below.mono (by omega)).trans (below_set (Nat.le_refl _) (.int .i64 0))).trans (below_set (Nat.le_refl _) (.int .i64 0))).trans (below_set (i := 2) (Nat.le_refl _) (.slice none 0 0))))
  clear TX TZ HV HXs HRl hl
  go_wp2
  refine bodyPost_ret (results_row (vs := [.int .i64 0, .int .i64 0, .slice none 0 0]) rfl _ _ (g0 + 1) rfl (((HT.out.set 0 _).set 1 _).set 2 _) Try.underlying24 (by kernel_rfl)) rfl ?_
  exact Ret.of HX.out rfl

set_option maxRecDepth 100000 in
set_option maxHeartbeats 8000000 in
theorem c_fieldRank {B : Nat} {W : World} (u : Later B W) (p C : Nat) (rows : Lls) (a : Option Addr) (cap : Nat) (h : RowsI B W a rows) (hp : PrimeP p) (hm : isMatrix (p : Int) (C : Int) rows) :
    Calls Try.prog 17 #[.agg #[.int .i64 p, .int .i64 C, .slice a rows.length cap]] u.val (RetP B W (fun v w => ∃ n M, RdSt p C rows.length (ent rows) n M ∧ v = .tuple #[.int .i64 n, .int .i64 0])) := by
  have hB := u.size
  have hn6 : rows.length ≤ 6 := hm.2.2.1
  have hC8 : C ≤ 8 := by have := hm.2.1.2; omega
  have TX : Hid (RowL (u.val.alloc (.cells #[.int .i64 p, .int .i64 C, .slice a rows.length cap] 24)) u.val.heap.size 24 [.int .i64 p, .int .i64 C, .slice a rows.length cap]) := Lib.hid (RowL.new u.val 24 _)
  have HV : Hid (∀ v : Later (u.val.alloc (.cells #[.int .i64 p, .int .i64 C, .slice a rows.length cap] 24)).heap.size (u.val.alloc (.cells #[.int .i64 p, .int .i64 C, .slice a rows.length cap] 24)), ∃ x : Later B W, x.val = v.val) := Lib.hid (fun v => ⟨(u.alloc _).up v, rfl⟩)
  have HXs : Hid (RowsI (u.val.alloc (.cells #[.int .i64 p, .int .i64 C, .slice a rows.length cap] 24)).heap.size (u.val.alloc (.cells #[.int .i64 p, .int .i64 C, .slice a rows.length cap] 24)) a rows) := Lib.hid (h.to (u.alloc _))
  have hrl : ∀ i, i < rows.length → (rows.getD i []).length = C := fun i hi => by have := (hm.2.2.2 i hi).1; omega
  have hsm : Small p rows.length C (ent rows) := fun i j hi hj => (hm.2.2.2 i hi).2 j (by rw [hrl i hi]; exact hj)
  have HSm := Lib.hid hsm
  have HRl := Lib.hid hrl
  have HM := Lib.hid hm
  clear h hsm hrl hm
  go_enter Try.func17, Try.ntmps17
  go_upto_region 1 with fail
  generalize (u.val.alloc (.cells #[.int .i64 p, .int .i64 C, .slice a rows.length cap] 24)) = Y at *
  generalize u.val.heap.size = g0 at *
  clear u
  have x0 : ∀ v : Later Y.heap.size Y, v.val.cell? ⟨g0, 0, none⟩ = some (.int .i64 p) := fun v => (TX.out.keep v.below).cell rfl
  have x1 : ∀ v : Later Y.heap.size Y, v.val.cell? ⟨g0, 1, none⟩ = some (.int .i64 C) := fun v => (TX.out.keep v.below).cell rfl
  have x2 : ∀ v : Later Y.heap.size Y, v.val.cell? ⟨g0, 2, none⟩ = some (.slice a rows.length cap) := fun v => (TX.out.keep v.below).cell rfl
  obtain ⟨z, hz⟩ : ∃ z : Later Y.heap.size Y, z.val = Y := ⟨Later.self _, rfl⟩
  have KX : Hid (Calls Try.prog 32 #[.agg #[.int .i64 p, .int .i64 C, .slice a rows.length cap]] z.val (Ret Y.heap.size Y (.int .i64 0))) := Lib.hid (by
    have := c_checkMatrix z p C rows a cap HXs.out (by omega) (fun i hi => by rw [HRl.out i hi]; omega)
    rwa [decide_eq_true HM.out] at this)
  have KT := Lib.hid (fun v : Later Y.heap.size Y => c_twin v (p : Int) (C : Int) rows a cap C HXs.out hn6 hC8 HRl.out)
  rw [← hz]
  clear hz
  have d0 := x0 z
  have d1 := x1 z
  have d2 := x2 z
  go_upto_region 5 with (first | (go_at_call 32; (with_reducible refine (KX.out).mono ?_); rintro e _ ⟨rfl, v1, rfl⟩; have q0a := x0 v1; have q1a := x1 v1; have q2a := x2 v1) | (go_at_call 34; (with_reducible refine (KT.out v1).mono ?_); rintro e _ ⟨_, rfl, ⟨ad, gc, hd, r, cp, rfl, hMx⟩, v2, rfl⟩) | fail)
  clear d0 d1 d2 KX KT q0a q1a q2a x0 x1 x2
  obtain ⟨y, hy⟩ : ∃ y : Later Y.heap.size Y, y.val = (v2.val.alloc (.cells #[.int .i64 p, .int .i64 C, .slice ad rows.length gc] 24)) := ⟨v2.alloc _, rfl⟩
  have HBx : Hid (RowL y.val v2.val.heap.size 24 [.int .i64 p, .int .i64 C, .slice ad rows.length gc]) := Lib.hid (by rw [hy]; exact RowL.new _ _ _)
  have KR : Hid (Calls Try.prog 39 #[.pointer (some ⟨v2.val.heap.size, 0, none⟩)] y.val (RetP Y.heap.size Y (RdRes Y.heap.size y.val.heap.size v2.val.heap.size rows.length C p (ent rows)))) := Lib.hid (by
    refine c_reduced y v2.val.heap.size gc rows.length C p ad hd r cp (ent rows) HBx.out (by rw [hy]; exact hMx.keep ((Below.refl _ _).alloc (Nat.le_refl _) _)) v2.size (fun g e => ?_) (fun hC i hi => ?_) hp (by omega) hC8 HSm.out
    · rcases hMx.form with ⟨e1, _⟩ | ⟨g', e1, _, h2⟩
      · rw [e] at e1; cases e1
      · rw [e] at e1; cases e1; omega
    · have := (hMx.rlt hC hi).2; omega)
  have hgo := v2.size
  rw [← hy]
  generalize v2.val.heap.size = go at *
  clear hy hMx v1 v2
  go_wp2_with (first | (go_at_call 39; (with_reducible refine (KR.out).mono ?_); rintro e _ ⟨_, rfl, ⟨A, M, cc, ada, cpa, ad', gc', hd', r', cp', rfl, hO, hR, hcc, hend, hbx, hmx⟩, v3, rfl⟩) | fail)
  go_ret2
  exact RetP.of (HV.out v3) ⟨A.length, M, ⟨A, cc, rfl, hR, hcc, hend⟩, rfl⟩

set_option maxRecDepth 100000 in
set_option maxHeartbeats 8000000 in
theorem c_fieldRank_no {B : Nat} {W : World} (u : Later B W) (p C : Int) (rows : Lls) (a : Option Addr) (cap : Nat) (h : RowsI B W a rows) (hl : rows.length ≤ 17592186044416) (hrl : ∀ i, i < rows.length → (rows.getD i []).length ≤ 17592186044416) (hm : ¬ isMatrix p C rows) :
    Calls Try.prog 17 #[.agg #[.int .i64 p, .int .i64 C, .slice a rows.length cap]] u.val (Ret B W (.tuple #[.int .i64 0, .int .i64 1])) := by
  have TX : Hid (RowL (u.val.alloc (.cells #[.int .i64 p, .int .i64 C, .slice a rows.length cap] 24)) u.val.heap.size 24 [.int .i64 p, .int .i64 C, .slice a rows.length cap]) := Lib.hid (RowL.new u.val 24 _)
  have HV : Hid (∀ v : Later (u.val.alloc (.cells #[.int .i64 p, .int .i64 C, .slice a rows.length cap] 24)).heap.size (u.val.alloc (.cells #[.int .i64 p, .int .i64 C, .slice a rows.length cap] 24)), ∃ x : Later B W, x.val = v.val) := Lib.hid (fun v => ⟨(u.alloc _).up v, rfl⟩)
  have KX : Hid (Calls Try.prog 32 #[.agg #[.int .i64 p, .int .i64 C, .slice a rows.length cap]] (u.val.alloc (.cells #[.int .i64 p, .int .i64 C, .slice a rows.length cap] 24)) (Ret (u.val.alloc (.cells #[.int .i64 p, .int .i64 C, .slice a rows.length cap] 24)).heap.size (u.val.alloc (.cells #[.int .i64 p, .int .i64 C, .slice a rows.length cap] 24)) (.int .i64 1))) := Lib.hid (by
    have := c_checkMatrix (Later.self (u.val.alloc (.cells #[.int .i64 p, .int .i64 C, .slice a rows.length cap] 24))) p C rows a cap (h.to (u.alloc _)) hl hrl
    rwa [decide_eq_false hm] at this)
  clear h hrl hm
  go_enter Try.func17, Try.ntmps17
  go_upto_region 1 with fail
  generalize (u.val.alloc (.cells #[.int .i64 p, .int .i64 C, .slice a rows.length cap] 24)) = Y at *
  generalize u.val.heap.size = g0 at *
  have x0 : Y.cell? ⟨g0, 0, none⟩ = some (.int .i64 p) := TX.out.cell rfl
  have x1 : Y.cell? ⟨g0, 1, none⟩ = some (.int .i64 C) := TX.out.cell rfl
  have x2 : Y.cell? ⟨g0, 2, none⟩ = some (.slice a rows.length cap) := TX.out.cell rfl
  go_wp2_with (first | (go_at_call 32; (with_reducible refine (KX.out).mono ?_); rintro e _ ⟨rfl, v3, rfl⟩) | fail)
  go_ret2
  exact Ret.of (HV.out v3) rfl

end Go.Proofs.Ytffnpokceomncaa

namespace Go.Proofs.Ytffnpokceomncaa
open Go.RowKit
set_option linter.unusedVariables false

set_option maxRecDepth 100000 in
set_option maxHeartbeats 8000000 in
theorem c_hang0 {B : Nat} {W : World} (u : Later B W) (p : Nat) (rows : Lls) (a : Option Addr) (cap : Nat) (h : RowsI B W a rows) (hN : rows.length ≤ 64) (hrl : ∀ i, i < rows.length → (rows.getD i []).length = 0) :
    Calls Try.prog 19 #[.int .i64 p, .slice a rows.length cap] u.val (RetP B W (fun v w => ∃ m, RankIs p 0 rows.length (ent rows) m ∧ v = .int .i64 m)) := by
  have H := Lib.hid h
  have HRl := Lib.hid hrl
  clear h hrl
  go_enter Try.func19, Try.ntmps19
  go_wp2
  go_loopw [5, 6] (fun s i wr => ∃ (q : Nat) (v : Later B W), q ≤ rows.length ∧ i = .int .i64 q ∧ s = .slice none 0 0 ∧ wr = v.val) (fun _ i _ => rows.length - (intOf i).toNat)
  case atStart => exact ⟨0, u, by omega, rfl, rfl, rfl⟩
  case round =>
    clear u
    obtain ⟨q, v, hq, rfl, rfl, rfl⟩ := hrel
    by_cases hlt : q < rows.length
    · obtain ⟨be, ofe, rfl, hbe, ad', cp', hI, hn, hcell⟩ := H.out.atN hlt
      have hrk := HRl.out q hlt
      have c0 := hcell v
      rw [hrk] at c0
      have HI : Hid (IntsAt v.val.heap.size v.val ad' []) := Lib.hid (by
        have := hI.to v
        rwa [List.length_eq_zero_iff.1 hrk] at this)
      have hn' := Lib.hid hn
      clear hI hcell hrk hn
      go_upto_region 6 with (first | (at_builtin; refine wpList_copyI rfl _ _ rfl [] 0 rfl ad' cp' rfl rfl HI.out hn'.out (by decide) ?_; intro y adv cv hO) | fail)
      clear c0
      obtain ⟨en, hen⟩ : ∃ en : Int, en = -1 := ⟨_, rfl⟩
      have KL : Hid (∀ z : Later v.val.heap.size v.val, z.val = y.val → Calls Try.prog 41 #[.slice adv 0 cv] z.val (Ret v.val.heap.size v.val (.int .i64 en))) := Lib.hid (fun z hz => by
        rw [hz]
        have := c_lead (Later.self y.val) [] adv cv hO.reads (by decide) en (.inr ⟨hen, fun j hj => by simp at hj⟩)
        refine this.mono ?_
        rintro e w ⟨rfl, x, rfl⟩
        exact ⟨rfl, y.up x, rfl⟩)
      have hneg : en < 0 := by omega
      clear hen hO
      go_wp2
      go_loopw [8] (fun i wr => i = .int .i64 0 ∧ Hid (wr = y.val)) (fun _ _ => 0)
      case atStart => exact ⟨rfl, Lib.hid rfl⟩
      case round =>
        obtain ⟨rfl, HVe⟩ := hrel
        rw [HVe.out]
        clear HVe
        have KL2 := Lib.hid (KL.out y rfl)
        go_upto_region 4 with (first | (go_at_call 41; (with_reducible refine (KL2.out).mono ?_); rintro e _ ⟨rfl, z, rfl⟩) | fail)
        obtain ⟨x, hx⟩ : ∃ x : Later B W, x.val = z.val := ⟨v.up z, rfl⟩
        rw [← hx]
        clear hx
        go_wp2
        go_roundw
        case rel => exact ⟨q + 1, x, by omega, by go_num, by trivial, by first | rfl | trivial⟩
        case measure => simp [intOf]; omega
    · have hqe : q = rows.length := by omega
      subst hqe
      go_wp2
      go_ret
      exact RetP.mk v ⟨0, ⟨fun _ _ => 0, fun _ => 0, ⟨fun i hi => by omega, fun i k hi => by omega⟩, fun i hi => by omega, fun i hi => InSp.zero (fun j hj => by omega)⟩, rfl⟩
theorem c_hangA {B : Nat} {W : World} (u : Later B W) (p C : Nat) (rows : Lls) (a : Option Addr) (cap : Nat) (h : RowsI B W a rows) (hp : PrimeP p) (hN : rows.length ≤ 64) (hC : C ≤ 8) (hrl : ∀ i, i < rows.length → (rows.getD i []).length = C) (hs : Small p rows.length C (ent rows)) :
    Calls Try.prog 19 #[.int .i64 p, .slice a rows.length cap] u.val (RetP B W (fun v w => ∃ m, RankIs p C rows.length (ent rows) m ∧ v = .int .i64 m)) := by
  rcases Nat.eq_zero_or_pos C with h0 | h0
  · subst h0; exact c_hang0 u p rows a cap h hN hrl
  · exact c_hang u p C rows a cap h hp hN hC h0 hrl hs

/-- reduced rows, as they are told -/
structure RedP (C n : Nat) (M : Nat → Nat → Int) (A : Nat → Nat) : Prop where
  lt : ∀ i, i < n → A i < C
  rise : ∀ i k, i < k → k < n → A i < A k
  one : ∀ i, i < n → M i (A i) = 1
  zl : ∀ i j, i < n → j < A i → M i j = 0
  zc : ∀ i k, i < n → k < n → k ≠ i → M k (A i) = 0
theorem RdSt.red {p C N : Nat} {M0 M : Nat → Nat → Int} {n : Nat} (h : RdSt p C N M0 n M) : ∃ A, RedP C n M A := by
  obtain ⟨A, cc, rfl, hR, hcc, _⟩ := h
  have := hR.le
  exact ⟨fun i => A.getD i 0, fun i hi => by have := hR.at_lt i hi; omega, hR.rise, hR.one, hR.zl, fun i k hi hk => hR.zc i k hi (by omega)⟩

set_option maxRecDepth 100000 in
set_option maxHeartbeats 8000000 in
theorem c_isReduced {B : Nat} {W : World} (u : Later B W) (p C : Nat) (rows : Lls) (a : Option Addr) (cap : Nat) (h : RowsI B W a rows) (hm : isMatrix (p : Int) (C : Int) rows) (A : Nat → Nat) (hA : RedP C rows.length (ent rows) A) :
    Calls Try.prog 20 #[.agg #[.int .i64 p, .int .i64 C, .slice a rows.length cap]] u.val (Ret B W (.bool true)) := by
  have hn6 : rows.length ≤ 6 := hm.2.2.1
  have hC8 : C ≤ 8 := by have := hm.2.1.2; omega
  have hrl : ∀ i, i < rows.length → (rows.getD i []).length = C := fun i hi => by have := (hm.2.2.2 i hi).1; omega
  have TX : Hid (RowL (u.val.alloc (.cells #[.int .i64 p, .int .i64 C, .slice a rows.length cap] 24)) u.val.heap.size 24 [.int .i64 p, .int .i64 C, .slice a rows.length cap]) := Lib.hid (RowL.new u.val 24 _)
  have HV : Hid (∀ v : Later (u.val.alloc (.cells #[.int .i64 p, .int .i64 C, .slice a rows.length cap] 24)).heap.size (u.val.alloc (.cells #[.int .i64 p, .int .i64 C, .slice a rows.length cap] 24)), ∃ x : Later B W, x.val = v.val) := Lib.hid (fun v => ⟨(u.alloc _).up v, rfl⟩)
  have HXs : Hid (RowsI (u.val.alloc (.cells #[.int .i64 p, .int .i64 C, .slice a rows.length cap] 24)).heap.size (u.val.alloc (.cells #[.int .i64 p, .int .i64 C, .slice a rows.length cap] 24)) a rows) := Lib.hid (h.to (u.alloc _))
  have HRl := Lib.hid hrl
  have HM := Lib.hid hm
  have HA := Lib.hid hA
  clear h hm hrl hA
  go_enter Try.func20, Try.ntmps20
  go_upto_region 1 with fail
  generalize (u.val.alloc (.cells #[.int .i64 p, .int .i64 C, .slice a rows.length cap] 24)) = Y at *
  generalize u.val.heap.size = g0 at *
  clear u
  have x0 : ∀ v : Later Y.heap.size Y, v.val.cell? ⟨g0, 0, none⟩ = some (.int .i64 p) := fun v => (TX.out.keep v.below).cell rfl
  have x1 : ∀ v : Later Y.heap.size Y, v.val.cell? ⟨g0, 1, none⟩ = some (.int .i64 C) := fun v => (TX.out.keep v.below).cell rfl
  have x2 : ∀ v : Later Y.heap.size Y, v.val.cell? ⟨g0, 2, none⟩ = some (.slice a rows.length cap) := fun v => (TX.out.keep v.below).cell rfl
  obtain ⟨z, hz⟩ : ∃ z : Later Y.heap.size Y, z.val = Y := ⟨Later.self _, rfl⟩
  have KX : Hid (Calls Try.prog 10 #[.agg #[.int .i64 p, .int .i64 C, .slice a rows.length cap]] z.val (Ret Y.heap.size Y (.bool true))) := Lib.hid (by
    have := c_isMatrix z p C rows a cap HXs.out (by omega) (fun i hi => by rw [HRl.out i hi]; omega)
    rwa [decide_eq_true HM.out] at this)
  rw [← hz]
  clear hz
  have d0 := x0 z
  have d1 := x1 z
  have d2 := x2 z
  go_upto_region 3 with (first | (go_at_call 10; (with_reducible refine (KX.out).mono ?_); rintro e _ ⟨rfl, v1, rfl⟩) | fail)
  clear d0 d1 d2 KX z
  go_wp2
  go_loopw [3, 4] (fun l i wr => ∃ (k : Nat) (la : Int) (v : Later Y.heap.size Y), k ≤ rows.length ∧ i = .int .i64 k ∧ l = .int .i64 la ∧ wr = v.val ∧ Hid (k < rows.length → la < A k)) (fun _ i _ => rows.length - (intOf i).toNat)
  case atStart => exact ⟨0, -1, v1, by omega, by first | rfl | go_num, by first | rfl | go_num, rfl, Lib.hid (fun _ => by omega)⟩
  case round =>
    clear v1
    obtain ⟨k, la, v, hk, rfl, rfl, rfl, HLa⟩ := hrel
    have x2v := x2 v
    by_cases hlt : k < rows.length
    · have hla := HLa.out hlt
      obtain ⟨bA, oA, rfl, hbA, arA, crA, hIA, _, hcA⟩ := HXs.out.atN hlt
      have hrk := HRl.out k hlt
      rw [hrk] at hcA
      have hAk := HA.out.lt k hlt
      have hE : LdIs (rows.getD k []) ((A k : Nat) : Int) := .inl ⟨A k, rfl, by rw [hrk]; exact hAk, by
        have := HA.out.one k hlt
        unfold ent at this
        rw [this]; decide, fun j hj => HA.out.zl k j hlt hj⟩
      have KL : Hid (Calls Try.prog 41 #[.slice arA C crA] v.val (Ret Y.heap.size Y (.int .i64 ((A k : Nat) : Int)))) := Lib.hid (by
        have := c_lead v (rows.getD k []) arA crA hIA (by rw [hrk]; omega) _ hE
        rwa [hrk] at this)
      have hcv := hcA v
      have H1 := Lib.hid hIA
      have HcA := Lib.hid hcA
      have HN : Hid (k + 1 < rows.length → ((A k : Nat) : Int) < A (k + 1)) := Lib.hid (fun hk1 => by have := HA.out.rise k (k + 1) (by omega) hk1; omega)
      have HOne : Hid ((rows.getD k []).getD (A k) 0 = 1) := Lib.hid (HA.out.one k hlt)
      have HAk : Hid (∀ q, q < rows.length → q ≠ k → ent rows q (A k) = 0) := Lib.hid (fun q hq hne => HA.out.zc k q hlt hq hne)
      have HCl : Hid ((rows.getD k []).length = C) := Lib.hid hrk
      clear hE hIA hcA hrk
      generalize A k = ak at *
      generalize rows.getD k [] = row at *
      go_upto_region 8 with (first | (go_at_call 41; (with_reducible refine (KL.out).mono ?_); rintro e _ ⟨rfl, v1, rfl⟩) | fail)
      clear x2v hcv KL
      obtain ⟨b2, o2, rfl, hb2, hc2⟩ := H1.out.at (show ak < row.length by rw [HCl.out]; exact hAk)
      have x2v := x2 v1
      have hcv := HcA.out v1
      have hcw : v1.val.cell? ⟨b2, o2 + ak, none⟩ = some (.int .i64 1) := by
        rw [← HOne.out]
        exact hc2 v1 ak (by rw [HCl.out]; exact hAk)
      clear hc2
      go_upto_region 10 with fail
      clear x2v hcv hcw
      go_wp2
      go_loopw [6] (fun i wr => ∃ (q : Nat) (v : Later Y.heap.size Y), q ≤ rows.length ∧ i = .int .i64 q ∧ wr = v.val) (fun i _ => rows.length - (intOf i).toNat)
      case atStart => exact ⟨0, v1, by omega, by first | rfl | go_num, rfl⟩
      case round =>
        clear v1
        obtain ⟨q, v1, hq, rfl, rfl⟩ := hrel
        have x2v := x2 v1
        by_cases hqn : q < rows.length
        · obtain ⟨bB, oB, hbe, hbB, arB, crB, hIB, _, hcB⟩ := HXs.out.atN hqn
          simp only [Option.some.injEq, Addr.mk.injEq] at hbe
          obtain ⟨rfl, rfl, _⟩ := hbe
          have hrq := HRl.out q hqn
          rw [hrq] at hcB
          obtain ⟨b3, o3, rfl, hb3, hc3⟩ := hIB.at (show ak < (rows.getD q []).length by rw [hrq]; exact hAk)
          have t1 := hcB v1
          have t2 : v1.val.cell? ⟨b3, o3 + ak, none⟩ = some (.int .i64 (ent rows q ak)) := hc3 v1 ak (by rw [hrq]; exact hAk)
          rcases Nat.decEq q k with hne | he
          · have f1 : ((q : Int) != (k : Int)) = true := by rw [bne_iff_ne]; omega
            have f2 : (q != k) = true := by rw [bne_iff_ne]; exact hne
            rw [HAk.out q hqn hne] at t2
            clear hc3 hcB hIB hrq
            go_wp2
            go_roundw
            case rel => exact ⟨q + 1, v1, by omega, by go_num, by first | rfl | trivial⟩
            case measure => simp [intOf]; omega
          · subst he
            clear hc3 hcB hIB hrq
            go_wp2
            go_roundw
            case rel => exact ⟨q + 1, v1, by omega, by go_num, by first | rfl | trivial⟩
            case measure => simp [intOf]; omega
        · have hqe : q = rows.length := by omega
          subst hqe
          go_wp2
          go_roundw
          case rel => exact ⟨k + 1, (ak : Int), v1, by omega, by go_num, by first | rfl | trivial, by first | rfl | trivial, HN⟩
          case measure => simp [intOf]; omega
    · have hke : k = rows.length := by omega
      subst hke
      go_wp2
      go_ret
      exact Ret.of (HV.out v) rfl

/-- what Nought adds up -/
theorem dot_bound {p N n C : Nat} {X Y : Nat → Nat → Int} (hp : p ≤ 7) (hX : Small p N C X) (hY : Small p n C Y) {i j : Nat} (hi : i < N) (hj : j < n) : ∀ k, k ≤ C → 0 ≤ dot k (X i) (Y j) ∧ dot k (X i) (Y j) ≤ 49 * k
  | 0, _ => by unfold dot; simp [isum]
  | k + 1, hk => by
    have h1 := dot_bound hp hX hY hi hj k (by omega)
    have h2 := hX i k hi (by omega)
    have h3 := hY j k hj (by omega)
    have h4 := mul_small (a := X i k) (b := Y j k) (by omega) (by omega)
    have e : dot (k + 1) (X i) (Y j) = dot k (X i) (Y j) + X i k * Y j k := rfl
    omega

set_option maxRecDepth 100000 in
set_option maxHeartbeats 8000000 in
theorem c_nought {B : Nat} {W : World} (u : Later B W) (p C : Nat) (rx ry : Lls) (ax ay : Option Addr) (capx capy : Nat) (hx : RowsI B W ax rx) (hy : RowsI B W ay ry) (hp : PrimeP p) (hC : C ≤ 8) (hN : rx.length ≤ 64) (hn : ry.length ≤ 64)
    (hrx : ∀ i, i < rx.length → (rx.getD i []).length = C) (hry : ∀ i, i < ry.length → (ry.getD i []).length = C) (hsx : Small p rx.length C (ent rx)) (hsy : Small p ry.length C (ent ry)) (h : ∀ i k, i < rx.length → k < ry.length → Cg p (dot C (ent rx i) (ent ry k)) 0) :
    Calls Try.prog 21 #[.agg #[.int .i64 p, .int .i64 C, .slice ax rx.length capx], .agg #[.int .i64 p, .int .i64 C, .slice ay ry.length capy]] u.val (Ret B W (.bool true)) := by
  have hp7 := hp.le
  have k1 : (u.val.alloc (.cells #[.int .i64 p, .int .i64 C, .slice ax rx.length capx] 24)).heap.size = u.val.heap.size + 1 := by simp
  have TX : Hid (RowL ((u.val.alloc (.cells #[.int .i64 p, .int .i64 C, .slice ax rx.length capx] 24)).alloc (.cells #[.int .i64 p, .int .i64 C, .slice ay ry.length capy] 24)) u.val.heap.size 24 [.int .i64 p, .int .i64 C, .slice ax rx.length capx]) := Lib.hid ((RowL.new u.val 24 _).keep ((Below.refl _ _).alloc (Nat.le_refl _) _))
  have TY : Hid (RowL ((u.val.alloc (.cells #[.int .i64 p, .int .i64 C, .slice ax rx.length capx] 24)).alloc (.cells #[.int .i64 p, .int .i64 C, .slice ay ry.length capy] 24)) (u.val.heap.size + 1) 24 [.int .i64 p, .int .i64 C, .slice ay ry.length capy]) := Lib.hid (by
    have h := RowL.new (u.val.alloc (.cells #[.int .i64 p, .int .i64 C, .slice ax rx.length capx] 24)) 24 [.int .i64 p, .int .i64 C, .slice ay ry.length capy]
    rwa [k1] at h)
  have HV : Hid (∀ v : Later ((u.val.alloc (.cells #[.int .i64 p, .int .i64 C, .slice ax rx.length capx] 24)).alloc (.cells #[.int .i64 p, .int .i64 C, .slice ay ry.length capy] 24)).heap.size ((u.val.alloc (.cells #[.int .i64 p, .int .i64 C, .slice ax rx.length capx] 24)).alloc (.cells #[.int .i64 p, .int .i64 C, .slice ay ry.length capy] 24)), ∃ x : Later B W, x.val = v.val) := Lib.hid (fun v => ⟨((u.alloc _).alloc _).up v, rfl⟩)
  have HXs : Hid (RowsI ((u.val.alloc (.cells #[.int .i64 p, .int .i64 C, .slice ax rx.length capx] 24)).alloc (.cells #[.int .i64 p, .int .i64 C, .slice ay ry.length capy] 24)).heap.size ((u.val.alloc (.cells #[.int .i64 p, .int .i64 C, .slice ax rx.length capx] 24)).alloc (.cells #[.int .i64 p, .int .i64 C, .slice ay ry.length capy] 24)) ax rx) := Lib.hid (hx.to ((u.alloc _).alloc _))
  have HYs : Hid (RowsI ((u.val.alloc (.cells #[.int .i64 p, .int .i64 C, .slice ax rx.length capx] 24)).alloc (.cells #[.int .i64 p, .int .i64 C, .slice ay ry.length capy] 24)).heap.size ((u.val.alloc (.cells #[.int .i64 p, .int .i64 C, .slice ax rx.length capx] 24)).alloc (.cells #[.int .i64 p, .int .i64 C, .slice ay ry.length capy] 24)) ay ry) := Lib.hid (hy.to ((u.alloc _).alloc _))
  have HrX := Lib.hid hrx
  have HrY := Lib.hid hry
  have HsX := Lib.hid hsx
  have HsY := Lib.hid hsy
  have H := Lib.hid h
  clear hx hy k1 hrx hry hsx hsy h
  go_enter Try.func21, Try.ntmps21
  go_upto_region 1 with fail
  generalize ((u.val.alloc (.cells #[.int .i64 p, .int .i64 C, .slice ax rx.length capx] 24)).alloc (.cells #[.int .i64 p, .int .i64 C, .slice ay ry.length capy] 24)) = Y at *
  generalize u.val.heap.size = g0 at *
  clear u
  have x0 : ∀ v : Later Y.heap.size Y, v.val.cell? ⟨g0, 0, none⟩ = some (.int .i64 p) := fun v => (TX.out.keep v.below).cell rfl
  have x1 : ∀ v : Later Y.heap.size Y, v.val.cell? ⟨g0, 1, none⟩ = some (.int .i64 C) := fun v => (TX.out.keep v.below).cell rfl
  have x2 : ∀ v : Later Y.heap.size Y, v.val.cell? ⟨g0, 2, none⟩ = some (.slice ax rx.length capx) := fun v => (TX.out.keep v.below).cell rfl
  have y2 : ∀ v : Later Y.heap.size Y, v.val.cell? ⟨g0 + 1, 2, none⟩ = some (.slice ay ry.length capy) := fun v => (TY.out.keep v.below).cell rfl
  obtain ⟨z, hz⟩ : ∃ z : Later Y.heap.size Y, z.val = Y := ⟨Later.self _, rfl⟩
  rw [← hz]
  clear hz
  go_wp2
  go_loopw [5] (fun i wr => ∃ (k : Nat) (v : Later Y.heap.size Y), k ≤ rx.length ∧ i = .int .i64 k ∧ wr = v.val) (fun i _ => rx.length - (intOf i).toNat)
  case atStart => exact ⟨0, z, by omega, by first | rfl | go_num, rfl⟩
  case round =>
    clear z
    obtain ⟨k, v, hk, rfl, rfl⟩ := hrel
    have x2v := x2 v
    by_cases hlt : k < rx.length
    · go_wp2
      clear x2v
      go_loopw [6] (fun i wr => ∃ (q : Nat) (v : Later Y.heap.size Y), q ≤ ry.length ∧ i = .int .i64 q ∧ wr = v.val) (fun i _ => ry.length - (intOf i).toNat)
      case atStart => exact ⟨0, v, by omega, by first | rfl | go_num, rfl⟩
      case round =>
        clear v
        obtain ⟨q, v, hq, rfl, rfl⟩ := hrel
        have y2v := y2 v
        by_cases hql : q < ry.length
        · go_wp2
          clear y2v
          go_loopw [7, 8] (fun s i wr => ∃ (j : Nat) (v : Later Y.heap.size Y), j ≤ C ∧ i = .int .i64 j ∧ s = .int .i64 (dot j (ent rx k) (ent ry q)) ∧ wr = v.val) (fun _ i _ => C - (intOf i).toNat)
          case atStart => exact ⟨0, v, by omega, by first | rfl | go_num, by first | rfl | simp [dot, isum], rfl⟩
          case round =>
            clear v
            obtain ⟨j, v, hj, rfl, rfl, rfl⟩ := hrel
            have x1v := x1 v
            have hb := dot_bound hp7.2 HsX.out HsY.out hlt hql j hj
            by_cases hjC : j < C
            · obtain ⟨bX, oX, rfl, hbX, arX, crX, hIX, _, hcX⟩ := HXs.out.atN hlt
              have hlX := HrX.out k hlt
              obtain ⟨bX2, oX2, rfl, hbX2, hcX2⟩ := hIX.at (show j < (rx.getD k []).length by omega)
              obtain ⟨bY, oY, rfl, hbY, arY, crY, hIY, _, hcY⟩ := HYs.out.atN hql
              have hlY := HrY.out q hql
              obtain ⟨bY2, oY2, rfl, hbY2, hcY2⟩ := hIY.at (show j < (ry.getD q []).length by omega)
              rw [hlX] at hcX
              rw [hlY] at hcY
              have m3 : ∀ w : Later Y.heap.size Y, w.val.cell? ⟨bX2, oX2 + j, none⟩ = some (.int .i64 (ent rx k j)) := fun w => hcX2 w j (by omega)
              have m6 : ∀ w : Later Y.heap.size Y, w.val.cell? ⟨bY2, oY2 + j, none⟩ = some (.int .i64 (ent ry q j)) := fun w => hcY2 w j (by omega)
              have HSt : Hid (dot (j + 1) (ent rx k) (ent ry q) = dot j (ent rx k) (ent ry q) + ent rx k j * ent ry q j) := Lib.hid rfl
              have hx1 := HsX.out k j hlt hjC
              have hy1 := HsY.out q j hql hjC
              have ms := mul_small (a := ent rx k j) (b := ent ry q j) (by omega) (by omega)
              have w1 := IntWalk.i64_in (ent rx k j * ent ry q j) (by omega)
              have w2 := IntWalk.i64_in (dot j (ent rx k) (ent ry q) + ent rx k j * ent ry q j) (by omega)
              clear hcX2 hcY2 hIX hIY hlX hlY
              generalize dot j (ent rx k) (ent ry q) = pc at *
              generalize ent rx k j = xq at *
              generalize ent ry q j = yq at *
              go_wp2
              clear x1v
              refine wp_region_later v (by kernel_rfl) (by kernel_rfl) (fun _ => ?_)
              repeat (first | go_big_quiet_step ((fail)) | (refine wpQuiet_step (fun K hK => ?_); go_simp; refine ⟨_, fun _ => rfl, ?_⟩; refine hK _ ?_; clear hK K))
              refine wpQuiet_nil ?_
              intro v
              go_wp2
              go_roundw
              case rel => exact ⟨j + 1, v, by omega, by go_num, by rw [HSt.out], by first | rfl | trivial⟩
              case measure => simp [intOf]; omega
            · have hje : j = C := by omega
              subst hje
              have hp0 : (p : Int) ≠ 0 := by omega
              have hpn : p ≠ 0 := by omega
              have tm : Int.tmod (dot j (ent rx k) (ent ry q)) (p : Int) = 0 := by
                rw [Int.tmod_eq_emod_of_nonneg hb.1]
                exact Cg.zero_iff.1 (H.out k q hlt hql)
              have x0v := x0 v
              generalize dot j (ent rx k) (ent ry q) = pc at *
              go_wp2
              go_roundw
              case rel => exact ⟨q + 1, v, by omega, by go_num, by first | rfl | trivial⟩
              case measure => simp [intOf]; omega
        · have hqe : q = ry.length := by omega
          subst hqe
          go_wp2
          go_roundw
          case rel => exact ⟨k + 1, v, by omega, by go_num, by first | rfl | trivial⟩
          case measure => simp [intOf]; omega
    · have hke : k = rx.length := by omega
      subst hke
      go_wp2
      go_ret
      exact Ret.of (HV.out v) rfl

end Go.Proofs.Ytffnpokceomncaa
