
/-
  rotaref.lead, rotaref.Hang.
-/
import Derived.Test.YtffnpokceomncaaFrB
import Derived.Test.YtffnpokceomncaaFmB
import Derived.Test.YtffnpokceomncaaFmG
namespace Go.Proofs.Ytffnpokceomncaa
open Go.RowKit
set_option linter.unusedVariables false

/-- the first place that is not nought; -1: there is none -/
def LdIs (xs : List Int) (e : Int) : Prop := (∃ l : Nat, e = l ∧ l < xs.length ∧ xs.getD l 0 ≠ 0 ∧ ∀ j, j < l → xs.getD j 0 = 0) ∨ (e = -1 ∧ ∀ j, j < xs.length → xs.getD j 0 = 0)
theorem LdIs.ex (xs : List Int) : ∃ e, LdIs xs e := by
  by_cases h : ∃ l, l < xs.length ∧ xs.getD l 0 ≠ 0
  · obtain ⟨l, h1, h2⟩ := h
    obtain ⟨c, ⟨c1, c2⟩, c3⟩ := exists_least (P := fun l => l < xs.length ∧ xs.getD l 0 ≠ 0) l ⟨h1, h2⟩
    refine ⟨c, .inl ⟨c, rfl, c1, c2, fun j hj => ?_⟩⟩
    apply Classical.byContradiction
    intro hne
    exact c3 j hj ⟨by omega, hne⟩
  · refine ⟨-1, .inr ⟨rfl, fun j hj => ?_⟩⟩
    apply Classical.byContradiction
    intro hne
    exact h ⟨j, hj, hne⟩

set_option maxRecDepth 100000 in
set_option maxHeartbeats 4000000 in
theorem c_lead {B : Nat} {W : World} (u : Later B W) (xs : List Int) (a : Option Addr) (cap : Nat) (h : IntsAt B W a xs) (hlen : xs.length ≤ 1048576) (e : Int) (he : LdIs xs e) :
    Calls Try.prog 41 #[.slice a xs.length cap] u.val (Ret B W (.int .i64 e)) := by
  have HE := Lib.hid he
  have H := Lib.hid h
  clear h he
  go_enter Try.func41, Try.ntmps41
  go_wp2
  go_loopw [3] (fun i wr => ∃ (k : Nat) (v : Later B W), k ≤ xs.length ∧ i = .int .i64 k ∧ wr = v.val ∧ Hid (∀ j, j < k → xs.getD j 0 = 0)) (fun i _ => xs.length - (intOf i).toNat)
  case atStart => exact ⟨0, u, by omega, rfl, rfl, Lib.hid (fun j hj => by omega)⟩
  case round =>
    obtain ⟨k, v, hk, rfl, rfl, HZ⟩ := hrel
    by_cases hlt : k < xs.length
    · obtain ⟨b, off, rfl, hb, hc⟩ := H.out.at hlt
      have c0 := hc v k hlt
      rcases ieq (xs.getD k 0) 0 with ⟨g1, d1, d2⟩ | ⟨g1, d1, d2⟩
      · have HZ2 : Hid (∀ j, j < k + 1 → xs.getD j 0 = 0) := Lib.hid (fun j hj => by
          by_cases e : j = k
          · subst e; exact g1
          · exact HZ.out j (by omega))
        clear hc
        generalize xs.getD k 0 = x at *
        go_wp2
        go_roundw
        case rel => exact ⟨k + 1, v, by omega, by go_num, by first | rfl | trivial, HZ2⟩
        case measure => simp [intOf]; omega
      · have hek : e = k := by
          rcases HE.out with ⟨l, rfl, h1, h2, h3⟩ | ⟨_, h2⟩
          · rcases Nat.lt_trichotomy l k with c | c | c
            · exact absurd (HZ.out l c) h2
            · rw [c]
            · exact absurd (h3 k c) g1
          · exact absurd (h2 k hlt) g1
        have HK := Lib.hid hek
        clear hc hek HE HZ
        generalize xs.getD k 0 = x at *
        go_wp2
        go_ret
        exact Ret.mk v (vint HK.out.symm)
    · have hke : k = xs.length := by omega
      have hek : e = -1 := by
        rcases HE.out with ⟨l, rfl, h1, h2, h3⟩ | ⟨h, _⟩
        · exact absurd (HZ.out l (by omega)) h2
        · exact h
      subst hke
      have HK := Lib.hid hek
      clear hek HE HZ
      go_wp2
      go_ret
      exact Ret.mk v (vint HK.out.symm)

/-- a row that is copied -/
theorem wpList_copyI {w : World} {ops : Array Oper} {rest : List Oper} {o : Oper} {a : Act} {Q : Exit → Act → World → Prop} (hgd : o.guard = none) (s x : Operand)
    (ho : o.op = .call { callee := .builtin .append, args := #[s, x], argTypes := #[35, 35] })
    (ys : List Int) (n : Nat) (hn : ys.length = n) (ax : Option Addr) (cx : Nat) (hs : a.eval s = .slice none 0 0) (hx : a.eval x = .slice ax n cx) (hy : IntsAt w.heap.size w ax ys) (hcx : ax = none → cx = 0)
    (hlen : n ≤ 17592186044416)
    (h : ∀ (u' : Later w.heap.size w) (ad' : Option Addr) (cap' : Nat), Own w.heap.size u'.val ad' cap' ys → wpList Try.prog ops Q rest (a.put o.dst (.slice ad' n cap')) u'.val) :
    wpList Try.prog ops Q (o :: rest) a w := by
  subst hn
  refine wpList_appends_g (B := w.heap.size) (Nat.le_refl _) hgd s x ho [] none 0 hs (Own.nil _ _) ys ax cx hx hy hcx (by simpa using hlen) (fun w' ad' cap' hown hg => ?_)
  have hb := own_below (Below.refl w.heap.size w) (Nat.le_refl _) (Own.nil _ _) hg
  exact h ⟨w', hb, hb.size⟩ ad' cap' hown

/-- so many times a row, that nothing is left at a place -/
theorem fac_fin {p : Nat} (hp : PrimeP p) : ∀ x y : Fin 8, x.val < p → 0 < y.val → y.val < p → ∃ f : Fin 8, f.val < p ∧ (x.val + f.val * y.val) % p = 0 := by
  rcases hp with rfl | rfl | rfl | rfl <;> decide
theorem fac_nat {p : Nat} (hp : PrimeP p) (x : Nat) (hx : x < 8) (y : Nat) (hy : y < 8) (h1 : x < p) (h2 : 0 < y) (h3 : y < p) : ∃ f, f < 8 ∧ f < p ∧ (x + f * y) % p = 0 := by
  obtain ⟨f, a, b⟩ := fac_fin hp ⟨x, hx⟩ ⟨y, hy⟩ h1 h2 h3
  exact ⟨f.val, f.isLt, a, b⟩
theorem fac_first {p : Nat} (hp : PrimeP p) {x y : Int} (hx : 0 ≤ x ∧ x < p) (hy : 0 ≤ y ∧ y < p) (hy0 : y ≠ 0) : ∃ f : Nat, f < p ∧ (x + f * y) % (p : Int) = 0 ∧ ∀ k, k < f → (x + k * y) % (p : Int) ≠ 0 := by
  have h7 := hp.le
  obtain ⟨a, rfl⟩ := Int.eq_ofNat_of_zero_le hx.1
  obtain ⟨b, rfl⟩ := Int.eq_ofNat_of_zero_le hy.1
  obtain ⟨f, _, h1, h2⟩ := fac_nat hp a (by omega) b (by omega) (by omega) (by omega) (by omega)
  have e : ∀ f : Nat, ((a : Int) + f * b) % (p : Int) = ((a + f * b) % p : Nat) := fun f => by simp
  obtain ⟨c, ⟨c1, c2⟩, c3⟩ := exists_least (P := fun f => f < p ∧ (a + f * b) % p = 0) f ⟨h1, h2⟩
  refine ⟨c, c1, ?_, fun k hk hne => ?_⟩
  · rw [e, c2]; rfl
  · rw [e] at hne
    exact c3 k hk ⟨by omega, by exact_mod_cast hne⟩

/-- a kept row begins here -/
def LdE (C : Nat) (K : Nat → Int) (l : Nat) : Prop := l < C ∧ K l ≠ 0 ∧ ∀ j, j < l → K j = 0
theorem LdE.is {C : Nat} {K : Nat → Int} {l : Nat} (h : LdE C K l) : LdIs (tabL C K) (l : Int) := .inl ⟨l, rfl, by rw [tabL_len]; exact h.1, by rw [tabL_getD h.1]; exact h.2.1, fun j hj => by rw [tabL_getD (by have := h.1; omega)]; exact h.2.2 j hj⟩
/-- row v made less at the places ahead of j -/
def lsT (p : Nat) (Q K : Nat → Int) (f j : Nat) : Nat → Int := fun x => if x < j then (Q x + f * K x) % (p : Int) else Q x
/-- a row of the call's own, its numbers small -/
structure VRow (m : Nat) (w : World) (rv cv C p : Nat) (Q : Nat → Int) : Prop where
  own : Own m w (some ⟨rv, 0, none⟩) cv (tabL C Q)
  small : ∀ j, j < C → 0 ≤ Q j ∧ Q j < p
theorem small_cg {p : Nat} {x : Int} (h : 0 ≤ x ∧ x < p) : Cg p x 0 ↔ x = 0 := by
  rw [Cg.zero_iff, Int.emod_eq_of_lt h.1 h.2]

set_option maxRecDepth 100000 in
set_option maxHeartbeats 16000000 in
theorem c_hang {B : Nat} {W : World} (u : Later B W) (p C : Nat) (rows : Lls) (a : Option Addr) (cap : Nat) (h : RowsI B W a rows) (hp : PrimeP p) (hN : rows.length ≤ 64) (hC : C ≤ 8) (hC0 : 0 < C) (hrl : ∀ i, i < rows.length → (rows.getD i []).length = C) (hs : Small p rows.length C (ent rows)) :
    Calls Try.prog 19 #[.int .i64 p, .slice a rows.length cap] u.val (RetP B W (fun v w => ∃ m, RankIs p C rows.length (ent rows) m ∧ v = .int .i64 m)) := by
  have hB := u.size
  have hp7 := hp.le
  have hp0 : (p : Int) ≠ 0 := by omega
  have hpn : p ≠ 0 := by omega
  have H := Lib.hid h
  have HRl := Lib.hid hrl
  have HSm := Lib.hid hs
  clear h hrl hs
  go_enter Try.func19, Try.ntmps19
  go_wp2
  go_loopw [5, 6] (fun s i wr => ∃ (q m : Nat) (K : Nat → Nat → Int) (L : Nat → Nat) (ad : Option Addr) (gc : Nat) (hd : Nat → Option Addr) (r cp : Nat → Nat) (v : Later B W), q ≤ rows.length ∧ i = .int .i64 q ∧ s = .slice ad m gc ∧ wr = v.val ∧ m ≤ q ∧ Hid (Mtx B v.val ad gc m C hd r cp K) ∧ Hid (HgS p C (ent rows) q K L m) ∧ Hid (∀ i, i < m → LdE C (K i) (L i)) ∧ Hid (Small p m C K)) (fun _ i _ => rows.length - (intOf i).toNat)
  case atStart => exact ⟨0, 0, fun _ _ => 0, fun _ => 0, none, 0, fun _ => none, fun _ => 0, fun _ => 0, u, by omega, rfl, rfl, rfl, by omega, Lib.hid (Mtx.start _ _ _ _ _ _ _), Lib.hid (HgS.start _ _ _ _ _), Lib.hid (fun i hi => by omega), Lib.hid (fun i j hi => by omega)⟩
  case round =>
    clear u hB
    obtain ⟨q, m, K, L, ad, gc, hd, r, cp, v, hq, rfl, rfl, rfl, hmq, HM, HG, HL, HK⟩ := hrel
    by_cases hlt : q < rows.length
    · obtain ⟨be, ofe, rfl, hbe, ad', cp', hI, hn, hcell⟩ := H.out.atN hlt
      have hrk := HRl.out q hlt
      have c0 := hcell v
      rw [hrk] at c0
      have HI : Hid (IntsAt v.val.heap.size v.val ad' (rows.getD q [])) := Lib.hid (hI.to v)
      have HQ0 : Hid (∀ j, (rows.getD q []).getD j 0 = ent rows q j) := Lib.hid (fun _ => rfl)
      have hrow := Lib.hid hrk
      have hn' := Lib.hid hn
      have hC2 : C ≤ 17592186044416 := by omega
      clear hI hcell hrk hn
      go_upto_region 6 with (first | (at_builtin; refine wpList_copyI rfl _ _ rfl (rows.getD q []) C hrow.out ad' cp' rfl rfl HI.out hn'.out hC2 ?_; intro y adv cv hO) | fail)
      clear c0
      have HOv : Hid (Own v.val.heap.size y.val adv cv (tabL C (ent rows q))) := Lib.hid (by
        rwa [tabL_list hrow.out (fun j hj => HQ0.out j)] at hO)
      obtain ⟨rv, rfl⟩ := own_some HOv.out (by intro e; have := congrArg List.length e; rw [tabL_len] at this; simp at this; omega)
      have HV0 : Hid (VRow v.val.heap.size y.val rv cv C p (ent rows q)) := Lib.hid ⟨HOv.out, fun j hj => HSm.out q j hlt hj⟩
      have HM1 : Hid (Mtx B y.val ad gc m C hd r cp K) := Lib.hid (HM.out.keep y.below)
      have HG0 : Hid (HgV p C (ent rows) q K L m 0 (ent rows q)) := Lib.hid (HgV.start _ _ _ _ _)
      have hvB := v.size
      have hys : v.val.heap.size < y.val.heap.size := by have := HOv.out.ltL; omega
      have HAlt : Hid (∀ g, ad = some ⟨g, 0, none⟩ → g < v.val.heap.size) := Lib.hid (fun g hg => by
        rcases HM.out.form with ⟨e1, _⟩ | ⟨g', e1, _, e3⟩
        · rw [hg] at e1; cases e1
        · rw [hg] at e1; cases e1; exact e3)
      have HRlt : Hid (∀ i, i < m → 0 < C → r i < v.val.heap.size) := Lib.hid (fun i hi hC => (HM.out.rlt hC hi).2)
      have HUp : Hid (∀ w : World, Below v.val.heap.size v.val w → ∃ x : Later B W, x.val = w) := Lib.hid (fun w hb => ⟨v.to w (hb.mono hvB), rfl⟩)
      have hrvm := HOv.out.ltL.1
      clear hO HOv HI HQ0 hrow hn' HM
      obtain ⟨z, hz⟩ : ∃ z : Later v.val.heap.size v.val, z.val = y.val := ⟨y, rfl⟩
      rw [← hz] at HV0 HM1 hys ⊢
      clear hz y
      generalize v.val.heap.size = mk at *
      generalize v.val = X at *
      go_wp2
      go_loopw [8] (fun i wr => ∃ (k : Nat) (Q : Nat → Int) (y : Later mk X), k ≤ m ∧ i = .int .i64 k ∧ wr = y.val ∧ mk < y.val.heap.size ∧ Hid (VRow mk y.val rv cv C p Q) ∧ Hid (Mtx B y.val ad gc m C hd r cp K) ∧ Hid (HgV p C (ent rows) q K L m k Q)) (fun i _ => m - (intOf i).toNat)
      case atStart => exact ⟨0, _, z, by omega, rfl, rfl, hys, HV0, HM1, HG0⟩
      case round =>
        clear HV0 HM1 HG0 hys z
        obtain ⟨k, Q, y, hk, rfl, rfl, hys, HV, HM, HGv⟩ := hrel
        by_cases hkm : k < m
        · obtain ⟨g, rfl, hg1, hg2⟩ := HM.out.some' (by omega)
          have hlE := HL.out k hkm
          have hlC := hlE.1
          have hKs := HK.out k (L k) hkm hlC
          have hQs := HV.out.small (L k) hlC
          have hK0 := hlE.2.1
          have ck : ∀ w : Later y.val.heap.size y.val, w.val.cell? ⟨g, k, none⟩ = some (.slice (some ⟨r k, 0, none⟩) C (cp k)) := fun w => by rw [(HM.out.keep w.below).tcell hkm, (HM.out.keep w.below).hdr hC0 k hkm]
          have cv' : ∀ w : Later y.val.heap.size y.val, w.val.cell? ⟨rv, L k, none⟩ = some (.int .i64 (Q (L k))) := fun w => (HV.out.own.keep w.below).cellL hlC
          have cK : ∀ w : Later y.val.heap.size y.val, w.val.cell? ⟨r k, L k, none⟩ = some (.int .i64 (K k (L k))) := fun w => (HM.out.keep w.below).cell hkm hlC
          have KL : Hid (∀ w : Later y.val.heap.size y.val, Calls Try.prog 41 #[.slice (some ⟨r k, 0, none⟩) C (cp k)] w.val (Ret y.val.heap.size y.val (.int .i64 (L k)))) := Lib.hid (fun w => by
            have := c_lead w (tabL C (K k)) (some ⟨r k, 0, none⟩) (cp k) (HM.out.row hC0 k hkm).reads (by rw [tabL_len]; omega) _ hlE.is
            rwa [tabL_len] at this)
          obtain ⟨f0, hf0, hfz, hfn⟩ := fac_first hp hQs hKs hK0
          have HFz := Lib.hid hfz
          have HFn := Lib.hid hfn
          have HKf : Hid (K k (L k) = K k (L k)) := Lib.hid rfl
          obtain ⟨xq, hxq⟩ : ∃ xq, xq = Q (L k) := ⟨_, rfl⟩
          obtain ⟨xk, hxk⟩ : ∃ xk, xk = K k (L k) := ⟨_, rfl⟩
          obtain ⟨lk, hlk⟩ : ∃ lk, lk = L k := ⟨_, rfl⟩
          have HXq := Lib.hid hxq
          have HXk := Lib.hid hxk
          have HLk := Lib.hid hlk
          rw [← hxq] at cv' hQs HFz HFn
          rw [← hxk] at cK hKs HFz HFn hK0
          rw [← hlk] at cv' cK hlC KL
          clear hfz hfn hxq hxk hlk hlE HKf
          obtain ⟨z, hz⟩ : ∃ z : Later y.val.heap.size y.val, z.val = y.val := ⟨Later.self _, rfl⟩
          rw [← hz]
          clear hz
          have ckz := ck z
          go_upto_region 10 with (first | (go_at_call 41; (with_reducible refine (KL.out _).mono ?_); rintro e _ ⟨rfl, z1, rfl⟩) | fail)
          clear ckz KL z
          go_wp2
          go_loopw [10] (fun i wr => ∃ (f : Nat) (z : Later y.val.heap.size y.val), f ≤ f0 ∧ i = .int .i64 f ∧ wr = z.val) (fun i _ => f0 - (intOf i).toNat)
          case atStart => exact ⟨0, z1, by omega, by go_num, rfl⟩
          case round =>
            clear z1
            obtain ⟨f, z, hf, rfl, rfl⟩ := hrel
            have ms := mul_small (a := (f : Int)) (b := xk) (by omega) (by omega)
            have w1 := IntWalk.i64_in ((f : Int) * xk) (by omega)
            have w2 := IntWalk.i64_in (xq + (f : Int) * xk) (by omega)
            obtain ⟨rr, hrr⟩ : ∃ rr, rr = (xq + (f : Int) * xk) % (p : Int) := ⟨_, rfl⟩
            have tm : Int.tmod (xq + (f : Int) * xk) (p : Int) = rr := by rw [hrr]; exact Int.tmod_eq_emod_of_nonneg (by omega)
            by_cases hff : f = f0
            · subst hff
              have hr0 : rr = 0 := by rw [hrr]; exact HFz.out
              subst hr0
              clear hrr HFn
              go_wp2
              refine wp_region_later z (by kernel_rfl) (by kernel_rfl) (fun _ => ?_)
              repeat (first | go_big_quiet_step ((fail)) | (refine wpQuiet_step (fun K hK => ?_); go_simp; refine ⟨_, fun _ => rfl, ?_⟩; refine hK _ ?_; clear hK K))
              refine wpQuiet_nil ?_
              intro z
              go_wp2
              obtain ⟨y2, hy2⟩ : ∃ y2 : Later mk X, y2.val = z.val := ⟨y.to z.val (z.below.mono (by omega)), rfl⟩
              have HV2 : Hid (VRow mk y2.val rv cv C p (lsT p Q (K k) f 0)) := Lib.hid (by
                rw [hy2]
                have e : lsT p Q (K k) f 0 = Q := by funext x; unfold lsT; rw [if_neg (by omega)]
                rw [e]
                exact ⟨HV.out.own.keep z.below, HV.out.small⟩)
              have HM2 : Hid (Mtx B y2.val (some ⟨g, 0, none⟩) gc m C hd r cp K) := Lib.hid (by rw [hy2]; exact HM.out.keep z.below)
              have hy2s : mk < y2.val.heap.size := by rw [hy2]; have := z.size; omega
              have HSq := Lib.hid HV.out.small
              rw [← hy2]
              clear hy2 ck cv' cK w1 w2 tm z HV HM
              go_loopw [11] (fun i wr => ∃ (j : Nat) (y : Later mk X), j ≤ C ∧ i = .int .i64 j ∧ wr = y.val ∧ mk < y.val.heap.size ∧ Hid (VRow mk y.val rv cv C p (lsT p Q (K k) f j)) ∧ Hid (Mtx B y.val (some ⟨g, 0, none⟩) gc m C hd r cp K)) (fun i _ => C - (intOf i).toNat)
              case atStart => exact ⟨0, y2, by omega, by go_num, rfl, hy2s, HV2, HM2⟩
              case round =>
                clear HV2 HM2 hy2s y2
                obtain ⟨j, y, hj, rfl, rfl, hys, HV, HM⟩ := hrel
                by_cases hjC : j < C
                · have hQj := HSq.out j hjC
                  have hKj := HK.out k j hkm hjC
                  have ms2 := mul_small (a := (f : Int)) (b := K k j) (by omega) (by omega)
                  have w1 := IntWalk.i64_in ((f : Int) * K k j) (by omega)
                  have w2 := IntWalk.i64_in (Q j + (f : Int) * K k j) (by omega)
                  obtain ⟨nn, hnn⟩ : ∃ nn, nn = (Q j + (f : Int) * K k j) % (p : Int) := ⟨_, rfl⟩
                  have hns : 0 ≤ nn ∧ nn < p := by rw [hnn]; exact mod_small p (by omega) _
                  have tm : Int.tmod (Q j + (f : Int) * K k j) (p : Int) = nn := by rw [hnn]; exact Int.tmod_eq_emod_of_nonneg (by omega)
                  have a1 : ∀ w : Later y.val.heap.size y.val, w.val.cell? ⟨rv, j, none⟩ = some (.int .i64 (Q j)) := fun w => by
                    have := (HV.out.own.keep w.below).cellL hjC
                    unfold lsT at this
                    rwa [if_neg (by omega)] at this
                  have a2 : ∀ w : Later y.val.heap.size y.val, w.val.frozen? ⟨rv, j, none⟩ = false := fun w => (HV.out.own.keep w.below).fzL j
                  have ck : ∀ w : Later y.val.heap.size y.val, w.val.cell? ⟨g, k, none⟩ = some (.slice (some ⟨r k, 0, none⟩) C (cp k)) := fun w => by rw [(HM.out.keep w.below).tcell hkm, (HM.out.keep w.below).hdr hC0 k hkm]
                  have cK : ∀ w : Later y.val.heap.size y.val, w.val.cell? ⟨r k, j, none⟩ = some (.int .i64 (K k j)) := fun w => (HM.out.keep w.below).cell hkm hjC
                  have HVn : Hid (∀ w : Later y.val.heap.size y.val, VRow mk (w.val.setCell ⟨rv, j, none⟩ (.int .i64 nn)) rv cv C p (lsT p Q (K k) f (j + 1))) := Lib.hid (fun w => by
                    refine ⟨(HV.out.own.keep w.below).setL j nn (fun x hx => ?_), fun x hx => ?_⟩
                    · unfold lsT
                      by_cases e : x = j
                      · subst e; rw [if_pos (by omega), if_pos rfl, hnn]
                      · rw [if_neg e]
                        by_cases d : x < j
                        · rw [if_pos (by omega), if_pos d]
                        · rw [if_neg (by omega), if_neg d]
                    · unfold lsT
                      split
                      · exact mod_small p (by omega) _
                      · exact HSq.out x hx)
                  have HMn : Hid (∀ w : Later y.val.heap.size y.val, Mtx B (w.val.setCell ⟨rv, j, none⟩ (.int .i64 nn)) (some ⟨g, 0, none⟩) gc m C hd r cp K) := Lib.hid (fun w => (HM.out.keep w.below).apart (fun g' e => by cases e; have := HAlt.out g rfl; omega) (fun _ i hi => by have := HRlt.out i hi hC0; omega) _)
                  have HVx : Hid (∀ w : Later y.val.heap.size y.val, ∃ x : Later mk X, x.val = w.val.setCell ⟨rv, j, none⟩ (.int .i64 nn) ∧ mk < x.val.heap.size) := Lib.hid (fun w => ⟨(y.to w.val (w.below.mono (by omega))).set ⟨rv, j, none⟩ hrvm _, rfl, by have := w.size; show mk < (w.val.setCell ⟨rv, j, none⟩ (.int .i64 nn)).heap.size; simp; omega⟩)
                  obtain ⟨z, hz⟩ : ∃ z : Later y.val.heap.size y.val, z.val = y.val := ⟨Later.self _, rfl⟩
                  rw [← hz]
                  clear hz hnn HV HM
                  generalize Q j = qj at *
                  generalize K k j = kj at *
                  go_wp2
                  refine wp_region_later_tail z 19 (by kernel_rfl) (by kernel_rfl) (fun z2 => ?_)
                  simp only [List.take_succ_cons, List.take_zero, List.drop_succ_cons, List.drop_zero]
                  repeat still_step
                  refine wpStill_nil ?_
                  go_wp2
                  obtain ⟨xx, hxx, hxs⟩ := HVx.out z2
                  go_roundw
                  case rel => exact ⟨j + 1, xx, by omega, by go_num, hxx.symm, hxs, by rw [hxx]; exact Lib.hid (HVn.out z2), by rw [hxx]; exact Lib.hid (HMn.out z2)⟩
                  case measure => simp [intOf]; omega
                · have hje : j = C := by omega
                  subst hje
                  have HGn : Hid (HgV p j (ent rows) q K L m (k + 1) (lsT p Q (K k) f j)) := Lib.hid (by
                    refine HGv.out.step HG.out hkm (f := (f : Int)) (fun x hx => ?_) ?_
                    · unfold lsT; rw [if_pos hx]; exact Cg.mod _
                    · unfold lsT
                      rw [if_pos (by rw [← HLk.out]; exact hlC), ← HXq.out, ← HXk.out, HFz.out]
                      exact Cg.refl _)
                  go_wp2
                  go_roundw
                  case rel => exact ⟨k + 1, _, y, by omega, by go_num, by first | rfl | trivial, hys, HV, HM, HGn⟩
                  case measure => simp [intOf]; omega
            · have hne : rr ≠ 0 := by rw [hrr]; exact HFn.out f (by omega)
              have f1 : (rr != 0) = true := by rw [bne_iff_ne]; exact hne
              clear hrr
              go_wp2
              refine wp_region_later z (by kernel_rfl) (by kernel_rfl) (fun _ => ?_)
              repeat (first | go_big_quiet_step ((fail)) | (refine wpQuiet_step (fun K hK => ?_); go_simp; refine ⟨_, fun _ => rfl, ?_⟩; refine hK _ ?_; clear hK K))
              refine wpQuiet_nil ?_
              intro z
              go_wp2
              go_roundw
              case rel => exact ⟨f + 1, z, by omega, by go_num, by first | rfl | trivial⟩
              case measure => simp [intOf]; omega
        · have hke : k = m := by omega
          subst hke
          obtain ⟨e, he⟩ := LdIs.ex (tabL C Q)
          have KL : Hid (Calls Try.prog 41 #[.slice (some ⟨rv, 0, none⟩) C cv] y.val (Ret y.val.heap.size y.val (.int .i64 e))) := Lib.hid (by
            have := c_lead (Later.self y.val) (tabL C Q) (some ⟨rv, 0, none⟩) cv HV.out.own.reads (by rw [tabL_len]; omega) e he
            rwa [tabL_len] at this)
          rcases he with ⟨l, rfl, h1, h2, h3⟩ | ⟨rfl, h2⟩
          · rw [tabL_len] at h1
            rw [tabL_getD h1] at h2
            have hLE : LdE C Q l := ⟨h1, h2, fun j hj => by
              have := h3 j hj
              rwa [tabL_getD (by omega)] at this⟩
            have HLE := Lib.hid hLE
            have HLd : Hid (Lead p C Q l) := Lib.hid ⟨h1, fun hc => h2 ((small_cg (HV.out.small l h1)).1 hc), fun j hj => Cg.of_eq (hLE.2.2 j hj)⟩
            have hk1 : k + 1 ≤ 4294967296 := by omega
            clear h1 h2 h3 hLE
            go_upto_region 18 with (first | (go_at_call 41; (with_reducible refine (KL.out).mono ?_); rintro e _ ⟨rfl, z, rfl⟩) | fail)
            clear KL
            have HMO : Hid (Mtx B z.val ad gc k C hd r cp K) := Lib.hid (HM.out.keep z.below)
            have HRO : Hid (RowO B z.val C (some ⟨rv, 0, none⟩) rv cv Q) := Lib.hid ⟨fun _ => rfl, fun _ => (HV.out.own.keep z.below).mono hvB, fun h => by cases h⟩
            have hRN : 0 < C → (∀ i, i < k → r i ≠ rv) ∧ ∀ g, ad = some ⟨g, 0, none⟩ → rv ≠ g := fun hC => ⟨fun i hi e => by have := HRlt.out i hi hC; omega, fun g hg e => by have := HAlt.out g hg; omega⟩
            have hBz : B ≤ z.val.heap.size := by have := z.size; omega
            go_wp2_with (first | (at_builtin; refine wpList_pushM (B := B) (w := z.val) HMO.out HRO.out hRN hBz (by rfl) _ _ (by rfl) (by rfl) (by rfl) hk1 ?_; intro pp) | fail)
            obtain ⟨x0, hx0⟩ := HUp.out z.val (y.below.trans (z.below.mono (by omega)))
            obtain ⟨x, hx⟩ : ∃ x : Later B W, x.val = pp.val := ⟨x0.to pp.val (by rw [hx0]; exact pp.below), rfl⟩
            have HM3 : Hid (Mtx B x.val (some ⟨pp.g, 0, none⟩) pp.gc' (k + 1) C (fun i => if i = k then some ⟨rv, 0, none⟩ else hd i) (fun i => if i = k then rv else r i) (fun i => if i = k then cv else cp i) (fun i => if i = k then Q else K i)) := Lib.hid (by rw [hx]; exact pp.out)
            have HG3 : Hid (HgS p C (ent rows) (q + 1) (fun i => if i = k then Q else K i) (fun i => if i = k then l else L i) (k + 1)) := Lib.hid (HGv.out.keep HG.out HLd.out)
            have HL3 : Hid (∀ i, i < k + 1 → LdE C ((fun i => if i = k then Q else K i) i) ((fun i => if i = k then l else L i) i)) := Lib.hid (fun i hi => by
              by_cases e : i = k
              · simp only [if_pos e]; exact HLE.out
              · simp only [if_neg e]; exact HL.out i (by omega))
            have HK3 : Hid (Small p (k + 1) C (fun i => if i = k then Q else K i)) := Lib.hid (fun i j hi hj => by
              by_cases e : i = k
              · simp only [if_pos e]; exact HV.out.small j hj
              · simp only [if_neg e]; exact HK.out i j (by omega) hj)
            go_roundw
            case rel => exact ⟨q + 1, k + 1, _, _, _, _, _, _, _, x, by omega, by go_num, by trivial, hx.symm, by omega, HM3, HG3, HL3, HK3⟩
            case measure => simp [intOf]; omega
          · have HG3 : Hid (HgS p C (ent rows) (q + 1) K L k) := Lib.hid (HGv.out.none HG.out (fun j hj => by
              have := h2 j (by rw [tabL_len]; exact hj)
              rw [tabL_getD hj] at this
              exact Cg.of_eq this))
            obtain ⟨en, hen⟩ : ∃ en : Int, en = -1 := ⟨_, rfl⟩
            rw [← hen] at KL
            have hneg : en < 0 := by omega
            clear hen h2
            go_upto_region 4 with (first | (go_at_call 41; (with_reducible refine (KL.out).mono ?_); rintro e _ ⟨rfl, z, rfl⟩) | fail)
            obtain ⟨x, hx⟩ := HUp.out z.val (y.below.trans (z.below.mono (by omega)))
            have HM3 : Hid (Mtx B x.val ad gc k C hd r cp K) := Lib.hid (by rw [hx]; exact HM.out.keep z.below)
            rw [← hx]
            go_wp2
            go_roundw
            case rel => exact ⟨q + 1, k, K, L, ad, gc, hd, r, cp, x, by omega, by go_num, by trivial, (by first | exact hx.symm | rfl), by omega, HM3, HG3, HL, HK⟩
            case measure => simp [intOf]; omega
    · have hqe : q = rows.length := by omega
      subst hqe
      have HR : Hid (RankIs p C rows.length (ent rows) m) := Lib.hid HG.out.rank
      clear HM HG HL HK
      go_wp2
      go_ret
      exact RetP.mk v ⟨m, HR.out, rfl⟩

end Go.Proofs.Ytffnpokceomncaa
