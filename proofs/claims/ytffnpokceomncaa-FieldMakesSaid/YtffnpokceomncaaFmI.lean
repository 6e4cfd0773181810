
/-
  rotaref.Det whole; rotaref.Column.
-/
import Derived.Test.YtffnpokceomncaaFmH
namespace Go.Proofs.Ytffnpokceomncaa
open Go.RowKit
set_option linter.unusedVariables false

theorem bdt_le {n : Nat} (h : n ≤ 6) : bdt n ≤ 1835008 := by
  have : n = 0 ∨ n = 1 ∨ n = 2 ∨ n = 3 ∨ n = 4 ∨ n = 5 ∨ n = 6 := by omega
  rcases this with rfl | rfl | rfl | rfl | rfl | rfl | rfl <;> decide
theorem c_detAll (bn bs bx bf B0 : Nat) (W : World) (n p : Nat) (rows : Lls) (a : Option Addr) (cap : Nat) (H : DetOk bn bs bx bf B0 W n p rows a cap) : ∀ f, DetP bn bs bx bf B0 W n p rows a cap f
  | 0 => c_det0 bn bs bx bf B0 W n p rows a cap H
  | f + 1 => c_detStep bn bs bx bf B0 W n p rows a cap H f (c_detAll bn bs bx bf B0 W n p rows a cap H f)

set_option maxRecDepth 100000 in
set_option maxHeartbeats 8000000 in
theorem c_refDet {B : Nat} {W : World} (u : Later B W) (p : Nat) (rows : Lls) (a : Option Addr) (cap : Nat) (h : RowsI B W a rows) (hp : PrimeP p) (hm : isMatrix (p : Int) (rows.length : Int) rows) :
    Calls Try.prog 11 #[.agg #[.int .i64 p, .int .i64 rows.length, .slice a rows.length cap]] u.val (Ret B W (.int .i64 ((dt (ent rows) rows.length rows.length 0 0) % (p : Int)))) := by
  have hB := u.size
  have hp7 := hp.le
  have hn6 : rows.length ≤ 6 := hm.2.2.1
  have hrl : ∀ i, i < rows.length → (rows.getD i []).length = rows.length := fun i hi => by have := (hm.2.2.2 i hi).1; omega
  have hsm : Small p rows.length rows.length (ent rows) := fun i j hi hj => (hm.2.2.2 i hi).2 j (by rw [hrl i hi]; exact hj)
  obtain ⟨res, hres⟩ : ∃ res, res = dt (ent rows) rows.length rows.length 0 0 % (p : Int) := ⟨_, rfl⟩
  have HRes := Lib.hid hres
  rw [← hres]
  obtain ⟨n, hn⟩ : ∃ n, rows.length = n := ⟨_, rfl⟩
  rw [hn] at hn6 hrl hsm HRes ⊢
  have j1 : (u.val.alloc (.cells #[.int .i64 p, .int .i64 n, .slice a n cap] 24)).heap.size = u.val.heap.size + 1 := by simp
  have j2 : ((u.val.alloc (.cells #[.int .i64 p, .int .i64 n, .slice a n cap] 24)).alloc (.cells #[.int .i64 n] 3)).heap.size = u.val.heap.size + 1 + 1 := by simp
  have j3 : (((u.val.alloc (.cells #[.int .i64 p, .int .i64 n, .slice a n cap] 24)).alloc (.cells #[.int .i64 n] 3)).alloc (.cells #[.int .i64 0] 3)).heap.size = u.val.heap.size + 1 + 1 + 1 := by simp
  have HZs : Hid (((((u.val.alloc (.cells #[.int .i64 p, .int .i64 n, .slice a n cap] 24)).alloc (.cells #[.int .i64 n] 3)).alloc (.cells #[.int .i64 0] 3)).alloc (.cells #[.func (.func 37) #[] #[.pointer (some ⟨u.val.heap.size + 1, 0, none⟩), .pointer (some ⟨u.val.heap.size + 1 + 1, 0, none⟩), .pointer (some ⟨u.val.heap.size, 0, none⟩), .pointer (some ⟨u.val.heap.size + 1 + 1 + 1, 0, none⟩)]] 61)).heap.size = u.val.heap.size + 4) := Lib.hid (by simp)
  have TX : Hid (RowL ((((u.val.alloc (.cells #[.int .i64 p, .int .i64 n, .slice a n cap] 24)).alloc (.cells #[.int .i64 n] 3)).alloc (.cells #[.int .i64 0] 3)).alloc (.cells #[.func (.func 37) #[] #[.pointer (some ⟨u.val.heap.size + 1, 0, none⟩), .pointer (some ⟨u.val.heap.size + 1 + 1, 0, none⟩), .pointer (some ⟨u.val.heap.size, 0, none⟩), .pointer (some ⟨u.val.heap.size + 1 + 1 + 1, 0, none⟩)]] 61)) u.val.heap.size 24 [.int .i64 p, .int .i64 n, .slice a n cap]) := Lib.hid ((((RowL.new u.val 24 _).keep ((Below.refl _ _).alloc (Nat.le_refl _) _)).keep ((Below.refl _ _).alloc (Nat.le_refl _) _)).keep ((Below.refl _ _).alloc (Nat.le_refl _) _))
  have TN : Hid (RowL ((((u.val.alloc (.cells #[.int .i64 p, .int .i64 n, .slice a n cap] 24)).alloc (.cells #[.int .i64 n] 3)).alloc (.cells #[.int .i64 0] 3)).alloc (.cells #[.func (.func 37) #[] #[.pointer (some ⟨u.val.heap.size + 1, 0, none⟩), .pointer (some ⟨u.val.heap.size + 1 + 1, 0, none⟩), .pointer (some ⟨u.val.heap.size, 0, none⟩), .pointer (some ⟨u.val.heap.size + 1 + 1 + 1, 0, none⟩)]] 61)) (u.val.heap.size + 1) 3 [.int .i64 n]) := Lib.hid (by
    have h := (RowL.new (u.val.alloc (.cells #[.int .i64 p, .int .i64 n, .slice a n cap] 24)) 3 [.int .i64 n]).keep ((Below.refl _ _).alloc (Nat.le_refl _) (.cells #[.int .i64 0] 3))
    rw [j1] at h
    exact h.keep ((Below.refl _ _).alloc (Nat.le_refl _) _))
  have TS : Hid (RowL ((((u.val.alloc (.cells #[.int .i64 p, .int .i64 n, .slice a n cap] 24)).alloc (.cells #[.int .i64 n] 3)).alloc (.cells #[.int .i64 0] 3)).alloc (.cells #[.func (.func 37) #[] #[.pointer (some ⟨u.val.heap.size + 1, 0, none⟩), .pointer (some ⟨u.val.heap.size + 1 + 1, 0, none⟩), .pointer (some ⟨u.val.heap.size, 0, none⟩), .pointer (some ⟨u.val.heap.size + 1 + 1 + 1, 0, none⟩)]] 61)) (u.val.heap.size + 1 + 1) 3 [.int .i64 0]) := Lib.hid (by
    have h := RowL.new ((u.val.alloc (.cells #[.int .i64 p, .int .i64 n, .slice a n cap] 24)).alloc (.cells #[.int .i64 n] 3)) 3 [.int .i64 0]
    rw [j2] at h
    exact h.keep ((Below.refl _ _).alloc (Nat.le_refl _) _))
  have TF : Hid (RowL ((((u.val.alloc (.cells #[.int .i64 p, .int .i64 n, .slice a n cap] 24)).alloc (.cells #[.int .i64 n] 3)).alloc (.cells #[.int .i64 0] 3)).alloc (.cells #[.func (.func 37) #[] #[.pointer (some ⟨u.val.heap.size + 1, 0, none⟩), .pointer (some ⟨u.val.heap.size + 1 + 1, 0, none⟩), .pointer (some ⟨u.val.heap.size, 0, none⟩), .pointer (some ⟨u.val.heap.size + 1 + 1 + 1, 0, none⟩)]] 61)) (u.val.heap.size + 1 + 1 + 1) 61 [.func (.func 37) #[] #[.pointer (some ⟨u.val.heap.size + 1, 0, none⟩), .pointer (some ⟨u.val.heap.size + 1 + 1, 0, none⟩), .pointer (some ⟨u.val.heap.size, 0, none⟩), .pointer (some ⟨u.val.heap.size + 1 + 1 + 1, 0, none⟩)]]) := Lib.hid (by
    have h := RowL.new (((u.val.alloc (.cells #[.int .i64 p, .int .i64 n, .slice a n cap] 24)).alloc (.cells #[.int .i64 n] 3)).alloc (.cells #[.int .i64 0] 3)) 61 [.func (.func 37) #[] #[.pointer (some ⟨u.val.heap.size + 1, 0, none⟩), .pointer (some ⟨u.val.heap.size + 1 + 1, 0, none⟩), .pointer (some ⟨u.val.heap.size, 0, none⟩), .pointer (some ⟨u.val.heap.size + 1 + 1 + 1, 0, none⟩)]]
    rwa [j3] at h)
  have HV : Hid (∀ w : World, Below (u.val.heap.size + 1 + 1) ((((u.val.alloc (.cells #[.int .i64 p, .int .i64 n, .slice a n cap] 24)).alloc (.cells #[.int .i64 n] 3)).alloc (.cells #[.int .i64 0] 3)).alloc (.cells #[.func (.func 37) #[] #[.pointer (some ⟨u.val.heap.size + 1, 0, none⟩), .pointer (some ⟨u.val.heap.size + 1 + 1, 0, none⟩), .pointer (some ⟨u.val.heap.size, 0, none⟩), .pointer (some ⟨u.val.heap.size + 1 + 1 + 1, 0, none⟩)]] 61)) w → ∃ x : Later B W, x.val = w) := Lib.hid (fun w hb => ⟨⟨w, ((((u.alloc _).alloc _).alloc _).alloc _).below.trans (hb.mono (by omega)), by have := hb.size; simp at this; omega⟩, rfl⟩)
  have HR : Hid (RowsI (u.val.heap.size + 1 + 1) ((((u.val.alloc (.cells #[.int .i64 p, .int .i64 n, .slice a n cap] 24)).alloc (.cells #[.int .i64 n] 3)).alloc (.cells #[.int .i64 0] 3)).alloc (.cells #[.func (.func 37) #[] #[.pointer (some ⟨u.val.heap.size + 1, 0, none⟩), .pointer (some ⟨u.val.heap.size + 1 + 1, 0, none⟩), .pointer (some ⟨u.val.heap.size, 0, none⟩), .pointer (some ⟨u.val.heap.size + 1 + 1 + 1, 0, none⟩)]] 61)) a rows) := Lib.hid ((h.later ((((u.alloc _).alloc _).alloc _).alloc _).below).mono (by omega))
  have hsf := fun (a : Addr) (c : Array Value) (w : World) => run_store Try.prog w a (.func (.func 37) #[] c) .plain rfl
  have hp2 : ∀ (args : Array Value) (w : World), (callFunc 37 args).run Try.prog w = .ok (.enter 37 args) w := fun _ _ => by kernel_rfl
  clear h hm hres j1 j2 j3
  go_enter Try.func11, Try.ntmps11
  go_upto_region 5 with fail
  generalize ((((u.val.alloc (.cells #[.int .i64 p, .int .i64 n, .slice a n cap] 24)).alloc (.cells #[.int .i64 n] 3)).alloc (.cells #[.int .i64 0] 3)).alloc (.cells #[.func (.func 37) #[] #[.pointer (some ⟨u.val.heap.size + 1, 0, none⟩), .pointer (some ⟨u.val.heap.size + 1 + 1, 0, none⟩), .pointer (some ⟨u.val.heap.size, 0, none⟩), .pointer (some ⟨u.val.heap.size + 1 + 1 + 1, 0, none⟩)]] 61)) = Z at *
  generalize u.val.heap.size = g0 at *
  clear hsf u
  have H : DetOk (g0 + 1) (g0 + 1 + 1) g0 (g0 + 1 + 1 + 1) (g0 + 1 + 1) Z n p rows a cap := {
    base := by have := HZs.out; omega
    prime := hp
    len := ⟨hn, hn6⟩
    small := hsm
    rl := hrl
    rows := HR.out
    cn := fun w => (TN.out.keep_at w.below (by omega)).cell rfl
    x0 := fun w => (TX.out.keep_at w.below (by omega)).cell rfl
    x2 := fun w => (TX.out.keep_at w.below (by omega)).cell rfl
    cf := TF.out.cell rfl }
  have hbn := bit_le n (by omega)
  have hbd := bdt_le hn6
  have KN := c_detAll _ _ _ _ _ _ _ _ _ _ _ H n Z 0 0 0 1 1 (World.grownBy.refl _ _) TS.out (by omega) (by omega) (.inl rfl) (by omega) (by omega)
  have KN2 : Hid (Calls Try.prog 37 #[.int .i64 0, .int .i64 0, .int .i64 1, .int .i64 1, .pointer (some ⟨g0 + 1, 0, none⟩), .pointer (some ⟨g0 + 1 + 1, 0, none⟩), .pointer (some ⟨g0, 0, none⟩), .pointer (some ⟨g0 + 1 + 1 + 1, 0, none⟩)] Z (fun e w' => e = .returned (.tuple #[]) ∧ ∃ (v : Later (g0 + 1 + 1) Z) (S : Int), w' = v.val ∧ v.val.cell? ⟨g0 + 1 + 1, 0, none⟩ = some (.int .i64 S) ∧ v.val.cell? ⟨g0, 0, none⟩ = some (.int .i64 p) ∧ S % (p : Int) = res ∧ -2000000 ≤ S ∧ S ≤ 2000000)) := Lib.hid (KN.mono (by
    rintro e w' ⟨h1, h2, S, h3, h4, h5, h6⟩
    have hb : Below (g0 + 1 + 1) Z w' := ⟨h2.os, h2.tape, h2.output, h2.size, fun k hk => h2.block k (by have := HZs.out; omega) (by simp; omega)⟩
    refine ⟨h1, ⟨w', hb, by have := h2.size; have := HZs.out; omega⟩, S, rfl, h3.cell rfl, (TX.out.keep_at hb (by omega)).cell rfl, ?_, by omega, by omega⟩
    rw [HRes.out]
    rwa [Int.zero_add, Int.one_mul, Int.one_mul] at h4))
  have cf : Z.cell? ⟨g0 + 1 + 1 + 1, 0, none⟩ = some (.func (.func 37) #[] #[.pointer (some ⟨g0 + 1, 0, none⟩), .pointer (some ⟨g0 + 1 + 1, 0, none⟩), .pointer (some ⟨g0, 0, none⟩), .pointer (some ⟨g0 + 1 + 1 + 1, 0, none⟩)]) := TF.out.cell rfl
  clear KN H TX TN TS TF HR HRes hsm hrl
  go_upto_region 6 with (first | (go_at_call 37; (with_reducible refine (KN2.out).mono ?_); rintro e _ ⟨rfl, v, S, rfl, h3, h4, h5, h6, h7⟩) | fail)
  clear cf KN2
  have hp0 : (p : Int) ≠ 0 := by omega
  have hpn : p ≠ 0 := by omega
  obtain ⟨r1, hr1⟩ : ∃ r1, r1 = Int.tmod S (p : Int) := ⟨_, rfl⟩
  have hr2 : -(p : Int) < r1 ∧ r1 < p := by
    rw [hr1]
    exact ⟨Int.lt_tmod_of_pos _ (by omega), Int.tmod_lt_of_pos _ (by omega)⟩
  have hr3 : Cg p r1 S := by
    rw [hr1, Int.tmod_def, show S - (p : Int) * S.tdiv p = S + p * (-(S.tdiv p)) by grind]
    exact Cg.more _
  have tm1 : Int.tmod S (p : Int) = r1 := hr1.symm
  have w1 := IntWalk.i64_in (r1 + (p : Int)) (by omega)
  have tm2 : Int.tmod (r1 + (p : Int)) (p : Int) = res := by
    rw [Int.tmod_eq_emod_of_nonneg (by omega), ← h5]
    have := hr3.add (Cg.p_zero (p := p))
    rw [Int.add_zero] at this
    exact this
  have q0 : ∀ w : Later v.val.heap.size v.val, w.val.cell? ⟨g0 + 1 + 1, 0, none⟩ = some (.int .i64 S) := fun w => by
    rw [World.cell?_of_block (w := v.val) (w.below.block (g0 + 1 + 1) (by have := v.below.size; have := HZs.out; omega))]; exact h3
  have q1 : ∀ w : Later v.val.heap.size v.val, w.val.cell? ⟨g0, 0, none⟩ = some (.int .i64 p) := fun w => by
    rw [World.cell?_of_block (w := v.val) (w.below.block g0 (by have := v.below.size; have := HZs.out; omega))]; exact h4
  obtain ⟨z, hz⟩ : ∃ z : Later v.val.heap.size v.val, z.val = v.val := ⟨Later.self _, rfl⟩
  rw [← hz]
  clear hz hr1 hr3 h3 h4 h5
  have HVz : Hid (∀ z : Later v.val.heap.size v.val, ∃ x : Later B W, x.val = z.val) := Lib.hid (fun z => HV.out _ (v.below.trans (z.below.mono v.size)))
  refine wp_region_later z (by kernel_rfl) (by kernel_rfl) (fun _ => ?_)
  repeat (first | go_big_quiet_step ((fail)) | (refine wpQuiet_step (fun K hK => ?_); go_simp; refine ⟨_, fun _ => rfl, ?_⟩; refine hK _ ?_; clear hK K))
  refine wpQuiet_nil ?_
  intro z
  go_wp2
  go_ret
  obtain ⟨x, hx⟩ := HVz.out z
  exact Ret.of ⟨x, hx⟩ rfl

set_option maxRecDepth 100000 in
set_option maxHeartbeats 4000000 in
theorem c_column {B : Nat} {W : World} (u : Later B W) (p c : Int) (rows : Lls) (a : Option Addr) (cap k : Nat) (h : RowsI B W a rows) (hlen : rows.length ≤ 1048576) (hk : ∀ i, i < rows.length → k < (rows.getD i []).length) (hrl : ∀ i, i < rows.length → (rows.getD i []).length ≤ 1048576) :
    Calls Try.prog 15 #[.agg #[.int .i64 p, .int .i64 c, .slice a rows.length cap], .int .i64 k] u.val (RetOwn B W (tabL rows.length (fun i => ent rows i k))) := by
  have TX : Hid (RowL (u.val.alloc (.cells #[.int .i64 p, .int .i64 c, .slice a rows.length cap] 24)) u.val.heap.size 24 [.int .i64 p, .int .i64 c, .slice a rows.length cap]) := Lib.hid (RowL.new _ _ _)
  have HV : Hid (∀ v : Later (u.val.alloc (.cells #[.int .i64 p, .int .i64 c, .slice a rows.length cap] 24)).heap.size (u.val.alloc (.cells #[.int .i64 p, .int .i64 c, .slice a rows.length cap] 24)), ∃ w : Later B W, w.val = v.val) := Lib.hid (fun v => ⟨(u.alloc _).up v, rfl⟩)
  have HBs : Hid (B ≤ (u.val.alloc (.cells #[.int .i64 p, .int .i64 c, .slice a rows.length cap] 24)).heap.size) := Lib.hid (by have := u.size; simp; omega)
  have HR : Hid (RowsI (u.val.alloc (.cells #[.int .i64 p, .int .i64 c, .slice a rows.length cap] 24)).heap.size (u.val.alloc (.cells #[.int .i64 p, .int .i64 c, .slice a rows.length cap] 24)) a rows) := Lib.hid (h.to (u.alloc _))
  have HK := Lib.hid hk
  have HRl := Lib.hid hrl
  clear h hk hrl
  go_enter Try.func15, Try.ntmps15
  go_upto_region 1 with fail
  generalize (u.val.alloc (.cells #[.int .i64 p, .int .i64 c, .slice a rows.length cap] 24)) = Y at *
  generalize u.val.heap.size = g0 at *
  clear u
  have x2 : ∀ v : Later Y.heap.size Y, v.val.cell? ⟨g0, 2, none⟩ = some (.slice a rows.length cap) := fun v => (TX.out.keep v.below).cell rfl
  obtain ⟨z, hz⟩ : ∃ z : Later Y.heap.size Y, z.val = Y := ⟨Later.self _, rfl⟩
  rw [← hz]
  clear hz
  go_wp2
  go_loopw [5, 6] (fun l i wr => ∃ (q : Nat) (v : Later Y.heap.size Y) (al : Option Addr) (cl : Nat), q ≤ rows.length ∧ l = .slice al (tabL q (fun i => ent rows i k)).length cl ∧ i = .int .i64 q ∧ wr = v.val ∧ Hid (Own Y.heap.size v.val al cl (tabL q (fun i => ent rows i k)))) (fun _ i _ => rows.length - (intOf i).toNat)
  case atStart => exact ⟨0, z, none, 0, by omega, rfl, rfl, rfl, Lib.hid (Own.nil _ _)⟩
  case round =>
    clear z
    obtain ⟨q, v, al, cl, hq, rfl, rfl, rfl, HO⟩ := hrel
    have x2v := x2 v
    by_cases hlq : q < rows.length
    · obtain ⟨be, ofe, rfl, hbe, adr, cpr, hI, hn, hcell⟩ := HR.out.atN hlq
      have hkq := HK.out q hlq
      have hrq := HRl.out q hlq
      obtain ⟨br, ofr, rfl, hbr, hcr⟩ := hI.at hkq
      have c1 := hcell v
      have c2 := hcr v k hkq
      have HEr : Hid ((rows.getD q []).getD k 0 = ent rows q k) := Lib.hid rfl
      rw [HEr.out] at c2
      have HTs : Hid (tabL (q + 1) (fun i => ent rows i k) = tabL q (fun i => ent rows i k) ++ [ent rows q k]) := Lib.hid (tabL_snoc _ _)
      have HTl : Hid ((tabL q (fun i => ent rows i k)).length = q) := Lib.hid (tabL_len _ _)
      clear hcell hcr hI HEr
      generalize rows.getD q [] = row at *
      generalize ent rows q k = ek at *
      generalize hTq : tabL q (fun i => ent rows i k) = T at *
      clear hTq
      have HOv := HO
      go_wp2_with (first | (at_builtin; refine wpList_push (B := Y.heap.size) (W := Y) (w := v.val) v.below v.size rfl _ _ rfl T al cl ek rfl HOv.out rfl (by have := HTl.out; omega) ?_; intro u2 ad2 cp2 hown) | fail)
      go_roundw
      case rel =>
        refine ⟨q + 1, u2, ad2, cp2, by omega, ?_, by go_num, rfl, ?_⟩
        · rw [HTs.out]; simp
        · rw [HTs.out]; exact Lib.hid hown
      case measure => simp [intOf]; omega
    · have hqe : q = rows.length := by omega
      subst hqe
      go_wp2
      go_ret
      obtain ⟨w, hw⟩ := HV.out v
      exact RetP.of ⟨w, hw⟩ ⟨al, cl, rfl, HO.out.mono HBs.out⟩

end Go.Proofs.Ytffnpokceomncaa
