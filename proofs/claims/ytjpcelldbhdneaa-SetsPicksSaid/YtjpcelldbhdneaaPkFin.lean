
/-
  rotalaw.SetsPicks: the walk.
-/
import Derived.Test.YtjpcelldbhdneaaPkLaw
namespace Go.Proofs.Ytjpcelldbhdneaa
open Go.RowKit
set_option linter.unusedVariables false

def PkNum (W : World) (x : Int) (o : Value) (w : World) : Prop := (∃ v : Later W.heap.size W, w = v.val) ∧ o = .int .i64 x
def PkBoo (W : World) (x : Bool) (o : Value) (w : World) : Prop := (∃ v : Later W.heap.size W, w = v.val) ∧ o = .bool x
def PkTru (W : World) (o : Value) (w : World) : Prop := (∃ v : Later W.heap.size W, w = v.val) ∧ o = .bool false
def PkLst (W : World) (X : List Int) (o : Value) (w : World) : Prop := ∃ (v : Later W.heap.size W) (ad : Option Addr) (cp : Nat), w = v.val ∧ o = .slice ad X.length cp ∧ IntsAt v.val.heap.size v.val ad X

set_option maxRecDepth 100000 in
set_option maxHeartbeats 20000000 in
theorem law_setsPicks {B : Nat} {W : World} (u : Later B W) (n k : Int) (l : List Int) (a b : Int) (ad : Option Addr) (cap : Nat) (h : IntsAt B W ad l) (hlen : l.length ≤ 4611686018427387904) :
    Calls Try.prog 10 #[.int .i64 n, .int .i64 k, .slice ad l.length cap, .int .i64 a, .int .i64 b] u.val (Ret B W (.bool true)) := by
  obtain ⟨X, e1, he1, hXl, hXz, hCh, hTh⟩ := pick_choose n k
  obtain ⟨h1, hh, ok, eh1, hBe, hB1, hB2⟩ := pick_below a b
  obtain ⟨A1, A2, A3, A4, e4, he4, hl1, hl2, hl3, hl4, hz4, hP1, hP2, hP3, hP4, hR⟩ := pick_fam n l ad cap hlen
  have T0 : Hid (RowL (u.val.alloc (.cells #[.int .i64 k] 3)) u.val.heap.size 3 [.int .i64 k]) := Lib.hid (RowL.new _ _ _)
  have hI : Hid (IntsAt (u.val.alloc (.cells #[.int .i64 k] 3)).heap.size (u.val.alloc (.cells #[.int .i64 k] 3)) ad l) := Lib.hid (h.to (u.alloc _))
  have HV : Hid (∀ v : Later (u.val.alloc (.cells #[.int .i64 k] 3)).heap.size (u.val.alloc (.cells #[.int .i64 k] 3)), ∃ w : Later B W, w.val = v.val) := Lib.hid (fun v => ⟨(u.alloc _).up v, rfl⟩)
  have p0 : (u.val.alloc (.cells #[.int .i64 k] 3)).cell? ⟨u.val.heap.size, 0, none⟩ = some (.int .i64 k) := T0.out.cell rfl
  have hgz : u.val.heap.size < (u.val.alloc (.cells #[.int .i64 k] 3)).heap.size := by simp
  have KC : Hid (Calls Try.prog 91 #[.int .i64 n, .int .i64 k] (u.val.alloc (.cells #[.int .i64 k] 3)) (RetP (u.val.alloc (.cells #[.int .i64 k] 3)).heap.size (u.val.alloc (.cells #[.int .i64 k] 3)) (ListE X e1))) := Lib.hid (hCh _ _ (Later.self (u.val.alloc (.cells #[.int .i64 k] 3))))
  have HXl := Lib.hid hXl
  have HXz := Lib.hid hXz
  have HTh := Lib.hid hTh
  have HE1 := Lib.hid he1
  have HBe := Lib.hid hBe
  have HB1 := Lib.hid hB1
  have HB2 := Lib.hid hB2
  have HEh := Lib.hid eh1
  have HE4 := Lib.hid he4
  have HL4 := Lib.hid (And.intro hl1 (And.intro hl2 (And.intro hl3 hl4)))
  have HZ4 := Lib.hid hz4
  have HP1 := Lib.hid hP1
  have HP2 := Lib.hid hP2
  have HP3 := Lib.hid hP3
  have HP4 := Lib.hid hP4
  have HR := Lib.hid hR
  have HFam := Lib.hid (fun (B : Nat) (W : World) (v : Later B W) (h : IntsAt B W ad l) => c_isFamily v n l ad cap h (by omega))
  clear h hXl hXz hCh hTh he1 eh1 hBe hB1 hB2 he4 hl1 hl2 hl3 hl4 hz4 hP1 hP2 hP3 hP4 hR
  generalize l.length = len at *
  go_enter Try.func10, Try.ntmps10
  go_upto_region 2 with (first | (go_at_call 91; (with_reducible refine (KC.out).mono ?_); rintro e _ ⟨_, rfl, ⟨_, rfl, ⟨adX, cpX, rfl, hIX, _⟩⟩, v1, rfl⟩))
  have r0 : ∀ w : Later v1.val.heap.size v1.val, w.val.cell? ⟨u.val.heap.size, 0, none⟩ = some (.int .i64 k) := fun w => ((T0.out.keep v1.below).keep w.below).cell rfl
  have hgv : u.val.heap.size < v1.val.heap.size := Nat.lt_of_lt_of_le hgz v1.size
  have HV1 : Hid (∀ v : Later v1.val.heap.size v1.val, ∃ w : Later B W, w.val = v.val) := Lib.hid (fun v => HV.out (v1.up v))
  have HI1 : Hid (IntsAt v1.val.heap.size v1.val ad l) := Lib.hid (hI.out.to v1)
  have HX1 : Hid (IntsAt v1.val.heap.size v1.val adX X) := Lib.hid hIX
  clear T0 hI HV p0 hgz KC hIX
  generalize u.val.heap.size = gk at *
  generalize v1.val = V at *
  clear v1 u
  have KB := Lib.hid (fun (B : Nat) (W : World) (v : Later B W) (x : Bool) => c_bad v x 1)
  obtain ⟨v, hv⟩ : ∃ v : Later V.heap.size V, v.val = V := ⟨Later.self _, rfl⟩
  rw [← hv]
  clear hv
  have r0v := r0 v
  go_cut [13] from 37 to 52 (fun o w => PkNum V e1 o w)
  case first => as_aux_lemma =>
    clear r0 HV1 HI1 HX1 HTh HB1 HB2 HBe HEh HE4 HL4 HZ4 HP1 HP2 HP3 HP4 HR HFam HXl HXz
    have K1 := Lib.hid (KB.out _ _ v true)
    have K0 := Lib.hid (KB.out _ _ v false)
    have E1 : Hid (errno true 1 = 0) := Lib.hid rfl
    have E0 : Hid (errno false 1 = 1) := Lib.hid rfl
    rw [E1.out] at K1
    rw [E0.out] at K0
    clear KB
    have hY : Hid (isChoice n k → (0 : Int) = e1) := Lib.hid (fun h => by rw [HE1.out, decide_eq_true h]; rfl)
    have hN : Hid (¬ isChoice n k → (1 : Int) = e1) := Lib.hid (fun h => by rw [HE1.out, decide_eq_false h]; rfl)
    clear HE1
    unfold isChoice at hY hN
    rcases ile 0 n with ⟨g1, d1⟩ | ⟨g1, d1⟩
    · rcases ile n 8 with ⟨g2, d2⟩ | ⟨g2, d2⟩
      · rcases ile 0 k with ⟨g3, d3⟩ | ⟨g3, d3⟩
        · rcases ile k n with ⟨g4, d4⟩ | ⟨g4, d4⟩
          · have hr := Lib.hid (hY.out ⟨g1, g2, g3, g4⟩)
            clear hY hN g1 g2 g3 g4
            go_wp2_with (first | (go_at_call 19; (with_reducible refine (K1.out).mono ?_); rintro e _ ⟨rfl, v2, rfl⟩))
            go_meet
            case rel => exact ⟨⟨v2, rfl⟩, vint hr.out⟩
          · have hr := Lib.hid (hN.out (fun h => by omega))
            clear hY hN g1 g2 g3 g4
            go_wp2_with (first | (go_at_call 19; (with_reducible refine (K0.out).mono ?_); rintro e _ ⟨rfl, v2, rfl⟩))
            go_meet
            case rel => exact ⟨⟨v2, rfl⟩, vint hr.out⟩
        · have hr := Lib.hid (hN.out (fun h => by omega))
          clear hY hN g1 g2 g3
          go_wp2_with (first | (go_at_call 19; (with_reducible refine (K0.out).mono ?_); rintro e _ ⟨rfl, v2, rfl⟩))
          go_meet
          case rel => exact ⟨⟨v2, rfl⟩, vint hr.out⟩
      · have hr := Lib.hid (hN.out (fun h => by omega))
        clear hY hN g1 g2
        go_wp2_with (first | (go_at_call 19; (with_reducible refine (K0.out).mono ?_); rintro e _ ⟨rfl, v2, rfl⟩))
        go_meet
        case rel => exact ⟨⟨v2, rfl⟩, vint hr.out⟩
    · have hr := Lib.hid (hN.out (fun h => by omega))
      clear hY hN g1
      go_wp2_with (first | (go_at_call 19; (with_reducible refine (K0.out).mono ?_); rintro e _ ⟨rfl, v2, rfl⟩))
      go_meet
      case rel => exact ⟨⟨v2, rfl⟩, vint hr.out⟩
  case rest => as_aux_lemma =>
    obtain ⟨⟨v2, rfl⟩, rfl⟩ := hcut
    clear v r0v HE1
    go_upto_if 54 with fail
    go_cut [14] from 53 to 57 (fun o w => PkLst V X o w)
    case first => as_aux_lemma =>
      clear HV1 HI1 HX1 HB1 HB2 HBe HEh HE4 HL4 HZ4 HP1 HP2 HP3 HP4 HR HFam HXl KB
      by_cases he : e1 = 0
      · have KT := Lib.hid (HTh.out he v2.val.heap.size v2.val (Later.self v2.val) gk (Nat.lt_of_lt_of_le hgv v2.size) (r0 v2))
        have KT2 : Hid (Calls Try.prog 58 #[.int .i64 n, .func (.func 92) #[] #[.pointer (some ⟨gk, 0, none⟩)]] v2.val (RetInts v2.val.heap.size v2.val X)) := KT
        subst he
        clear HTh KT
        go_wp2_with (first | (go_at_call 58; (with_reducible refine (KT2.out).mono ?_); rintro e _ ⟨_, rfl, ⟨adY, cpY, rfl, hIY, _⟩, v3, rfl⟩))
        go_meet
        case rel => exact ⟨v2.up v3, adY, cpY, rfl, rfl, hIY⟩
      · have hx := HXz.out he
        subst hx
        have d0 : (e1 == 0) = false := by rw [beq_eq_false_iff_ne]; exact he
        clear he HTh HXz
        go_wp2
        go_meet
        case rel => exact ⟨v2, none, 0, rfl, rfl, IntsAt.nil⟩
    case rest => as_aux_lemma =>
      obtain ⟨v3, adY, cpY, rfl, rfl, hIY⟩ := hcut
      have KL : Hid (Calls Try.prog 29 #[.slice adX X.length cpX, .int .i64 e1, .slice adY X.length cpY, .int .i64 e1] v3.val (Ret v3.val.heap.size v3.val (.bool true))) := Lib.hid (c_list (Later.self v3.val) X X adX adY cpX cpY e1 e1 (HX1.out.to v3) hIY HXl.out rfl (by
        split
        · rfl
        · rename_i hne; exact HXz.out hne))
      clear HX1 hIY HTh HXz HXl v2
      go_upto_region 8 with (first | (go_at_call 29; (with_reducible refine (KL.out).mono ?_); rintro e _ ⟨rfl, v4, rfl⟩))
      have HV2 : Hid (∀ v : Later v4.val.heap.size v4.val, ∃ w : Later B W, w.val = v.val) := Lib.hid (fun v => HV1.out ((v3.up v4).up v))
      have HI2 : Hid (IntsAt v4.val.heap.size v4.val ad l) := Lib.hid ((HI1.out.to v3).to v4)
      clear HV1 HI1 KL r0 hgv
      generalize v4.val = U at *
      clear v4 v3
      have KBe : Hid (∀ v : Later U.heap.size U, Calls Try.prog 93 #[.int .i64 a, .int .i64 b] v.val (Ret U.heap.size U (.tuple #[.bool ok, .int .i64 hh]))) := Lib.hid (fun v => HBe.out _ _ v)
      obtain ⟨v, hv⟩ : ∃ v : Later U.heap.size U, v.val = U := ⟨Later.self _, rfl⟩
      rw [← hv]
      clear hv HBe
      go_upto_region 9 with (first | (go_at_call 93; (with_reducible refine (KBe.out _).mono ?_); rintro e _ ⟨rfl, v, rfl⟩))
      clear KBe
      go_cut [17] from 70 to 76 (fun o w => PkNum U h1 o w)
      case first => as_aux_lemma =>
        clear HV2 HI2 HB1 HB2 HE4 HL4 HZ4 HP1 HP2 HP3 HP4 HR HFam
        have KA := Lib.hid (fun w : Later U.heap.size U => c_isSet w 8 a)
        have KA2 := Lib.hid (fun w : Later U.heap.size U => c_isSet w 8 b)
        have KB1 := Lib.hid (fun (w : Later U.heap.size U) x => KB.out _ _ w x)
        rcases btf (decide (isSet 8 a)) with ha | ha
        · rw [ha] at KA
          have HEh' : Hid (h1 = errno (decide (isSet 8 b)) 1) := Lib.hid (by rw [HEh.out, ha]; rfl)
          clear HEh ha KB
          generalize decide (isSet 8 b) = bb at *
          go_wp2_with (first | (go_at_call 20; (with_reducible refine (KA.out _).mono ?_); rintro e _ ⟨rfl, v, rfl⟩) | (go_at_call 20; (with_reducible refine (KA2.out _).mono ?_); rintro e _ ⟨rfl, v, rfl⟩) | (go_at_call 19; (with_reducible refine (KB1.out _ _).mono ?_); rintro e _ ⟨rfl, v, rfl⟩))
          go_meet
          case rel => exact ⟨⟨v, rfl⟩, vint HEh'.out.symm⟩
        · rw [ha] at KA
          have HEh' : Hid (h1 = errno false 1) := Lib.hid (by rw [HEh.out, ha]; rfl)
          clear HEh ha KB KA2
          go_wp2_with (first | (go_at_call 20; (with_reducible refine (KA.out _).mono ?_); rintro e _ ⟨rfl, v, rfl⟩) | (go_at_call 19; (with_reducible refine (KB1.out _ _).mono ?_); rintro e _ ⟨rfl, v, rfl⟩))
          go_meet
          case rel => exact ⟨⟨v, rfl⟩, vint HEh'.out.symm⟩
      case rest => as_aux_lemma =>
        obtain ⟨⟨v, rfl⟩, rfl⟩ := hcut
        clear HEh
        go_upto_region 10 with fail
        go_cut [85] from 77 to 84 (fun o w => PkBoo U (decide (hh = 3)) o w)
        case first => as_aux_lemma =>
          clear HV2 HI2 HE4 HL4 HZ4 HP1 HP2 HP3 HP4 HR HFam KB
          by_cases h0 : h1 = 0
          · obtain ⟨a', b', rfl, rfl, ha, hb, hor⟩ := HB2.out h0
            subst h0
            have KA := Lib.hid (fun w : Later U.heap.size U => c_size w a' ha)
            have KA2 := Lib.hid (fun w : Later U.heap.size U => c_size w b' hb)
            clear HB1 HB2
            rcases hor with ⟨hz, rfl, rfl⟩ | ⟨hz, rfl, rfl⟩
            · have d1 : ((sz a' : Int) != (sz b' : Int)) = true := by rw [bne_iff_ne]; omega
              clear hz
              generalize sz a' = za at *
              generalize sz b' = zb at *
              go_wp2_with (first | (go_at_call 44; (with_reducible refine (KA.out _).mono ?_); rintro e _ ⟨rfl, v, rfl⟩) | (go_at_call 44; (with_reducible refine (KA2.out _).mono ?_); rintro e _ ⟨rfl, v, rfl⟩))
              go_meet
              case rel => exact ⟨⟨v, rfl⟩, rfl⟩
            · rw [← hz] at KA2
              have d1 : ((sz a' : Int) != (sz a' : Int)) = false := by simp
              clear hz
              generalize sz a' = za at *
              generalize galeB a' b' = gb at *
              go_wp2_with (first | (go_at_call 44; (with_reducible refine (KA.out _).mono ?_); rintro e _ ⟨rfl, v, rfl⟩) | (go_at_call 44; (with_reducible refine (KA2.out _).mono ?_); rintro e _ ⟨rfl, v, rfl⟩))
              go_meet
              case rel => exact ⟨⟨v, rfl⟩, rfl⟩
          · obtain ⟨rfl, rfl, rfl⟩ := HB1.out h0
            clear h0 HB1 HB2
            go_wp2
            go_meet
            case rel => exact ⟨⟨v, rfl⟩, rfl⟩
        case rest => as_aux_lemma =>
          obtain ⟨⟨v, rfl⟩, rfl⟩ := hcut
          have HC : Hid (hh = 3 → (Value.int .i64 3) = .int .i64 hh) := Lib.hid (fun h => by rw [h])
          have HC2 : Hid (decide (hh = 3) = false → (Value.int .i64 h1) = .int .i64 hh) := Lib.hid (fun h => by
            have h := of_decide_eq_false h
            by_cases h0 : h1 = 0
            · obtain ⟨a', b', _, _, _, _, hor⟩ := HB2.out h0
              rcases hor with ⟨_, h3, _⟩ | ⟨_, h3, _⟩
              · exact absurd h3 h
              · rw [h0, h3]
            · obtain ⟨h2, h3, _⟩ := HB1.out h0
              rw [h2, h3])
          go_upto_if 85 with fail
          go_cut [17] from 85 to 85 (fun o w => PkNum U hh o w)
          case first => as_aux_lemma =>
            clear HV2 HI2 HE4 HL4 HZ4 HP1 HP2 HP3 HP4 HR HFam KB HB1 HB2
            rcases btf (decide (hh = 3)) with hd | hd
            · have hd' := of_decide_eq_true hd
              have HC3 := Lib.hid (HC.out hd')
              rw [hd]
              clear HC HC2 hd hd'
              go_wp2
              go_meet
              case rel => exact ⟨⟨v, rfl⟩, HC3.out⟩
            · have HC3 := Lib.hid (HC2.out hd)
              rw [hd]
              clear HC HC2 hd
              go_wp2
              go_meet
              case rel => exact ⟨⟨v, rfl⟩, HC3.out⟩
          case rest => as_aux_lemma =>
          obtain ⟨⟨v, rfl⟩, rfl⟩ := hcut
          clear HC HC2
          go_upto_region 12 with fail
          go_cut [99] from 86 to 98 (fun o w => PkTru U o w)
          case first => as_aux_lemma =>
            clear HV2 HI2 HE4 HL4 HZ4 HP1 HP2 HP3 HP4 HR HFam KB
            by_cases h0 : h1 = 0
            · obtain ⟨a', b', rfl, rfl, ha, hb, hor⟩ := HB2.out h0
              subst h0
              clear HB1 HB2
              rcases hor with ⟨hz, rfl, rfl⟩ | ⟨hz, rfl, rfl⟩
              · go_wp2
                go_meet
                case rel => exact ⟨⟨v, rfl⟩, rfl⟩
              · have KG := Lib.hid (fun w : Later U.heap.size U => c_gale w a' b' ha hb hz)
                clear hz
                generalize galeB a' b' = gb at *
                have d1 : (gb != gb) = false := by cases gb <;> rfl
                go_wp2_with (first | (go_at_call 94; (with_reducible refine (KG.out _).mono ?_); rintro e _ ⟨rfl, v, rfl⟩))
                go_meet
                case rel => exact ⟨⟨v, rfl⟩, rfl⟩
            · obtain ⟨rfl, rfl, rfl⟩ := HB1.out h0
              clear h0 HB1 HB2
              go_wp2
              go_meet
              case rel => exact ⟨⟨v, rfl⟩, rfl⟩
          case rest => as_aux_lemma =>
            obtain ⟨⟨v, rfl⟩, rfl⟩ := hcut
            clear HB1 HB2
            go_upto_region 14 with fail
            have HIv := Lib.hid (HI2.out.to v)
            have HVv : Hid (∀ w : Later v.val.heap.size v.val, ∃ z : Later B W, z.val = w.val) := Lib.hid (fun w => HV2.out (v.up w))
            clear HV2 HI2
            generalize v.val = V at *
            clear v
            have KF : Hid (∀ w : Later V.heap.size V, Calls Try.prog 31 #[.int .i64 n, .slice ad len cap] w.val (Ret w.val.heap.size w.val (.bool (decide (isFam n l))))) := Lib.hid (fun w => HFam.out _ _ (Later.self w.val) (HIv.out.to w))
            have KB2 : Hid (∀ w : Later V.heap.size V, Calls Try.prog 19 #[.bool (decide (isFam n l)), .int .i64 1] w.val (Ret w.val.heap.size w.val (.int .i64 e4))) := Lib.hid (fun w => by rw [HE4.out]; exact KB.out _ _ (Later.self w.val) _)
            have P1 : Hid (∀ w : Later V.heap.size V, Calls Try.prog 99 #[.int .i64 n, .slice ad len cap] w.val (RetP w.val.heap.size w.val (ListE A1 e4))) := Lib.hid (fun w => HP1.out _ _ (Later.self w.val) (HIv.out.to w))
            have P2 : Hid (∀ w : Later V.heap.size V, Calls Try.prog 100 #[.int .i64 n, .slice ad len cap] w.val (RetP w.val.heap.size w.val (ListE A2 e4))) := Lib.hid (fun w => HP2.out _ _ (Later.self w.val) (HIv.out.to w))
            have P3 : Hid (∀ w : Later V.heap.size V, Calls Try.prog 101 #[.int .i64 n, .slice ad len cap] w.val (RetP w.val.heap.size w.val (ListE A3 e4))) := Lib.hid (fun w => HP3.out _ _ (Later.self w.val) (HIv.out.to w))
            have P4 : Hid (∀ w : Later V.heap.size V, Calls Try.prog 102 #[.int .i64 n, .slice ad len cap] w.val (RetP w.val.heap.size w.val (ListE A4 e4))) := Lib.hid (fun w => HP4.out _ _ (Later.self w.val) (HIv.out.to w))
            generalize decide (isFam n l) = bf at *
            obtain ⟨hl1, hl2, hl3, hl4⟩ := HL4.out
            clear HP1 HP2 HP3 HP4 KB HFam HE4 HL4
            obtain ⟨v, hv⟩ : ∃ v : Later V.heap.size V, v.val = V := ⟨Later.self _, rfl⟩
            have hl : Lists v.val [] := Lists.nil _
            rw [← hv]
            clear hv
            by_cases h4 : e4 = 0
            · subst h4
              obtain ⟨hR1, hR2, hR3, hR4⟩ := HR.out rfl
              have R1 : Hid (∀ w : Later V.heap.size V, Calls Try.prog 95 #[.int .i64 n, .slice ad len cap] w.val (RetInts w.val.heap.size w.val A1)) := Lib.hid (fun w => hR1 _ _ (Later.self w.val) (HIv.out.to w))
              have R2 : Hid (∀ w : Later V.heap.size V, Calls Try.prog 96 #[.int .i64 n, .slice ad len cap] w.val (RetInts w.val.heap.size w.val A2)) := Lib.hid (fun w => hR2 _ _ (Later.self w.val) (HIv.out.to w))
              have R3 : Hid (∀ w : Later V.heap.size V, Calls Try.prog 97 #[.int .i64 n, .slice ad len cap] w.val (RetInts w.val.heap.size w.val A3)) := Lib.hid (fun w => hR3 _ _ (Later.self w.val) (HIv.out.to w))
              have R4 : Hid (∀ w : Later V.heap.size V, Calls Try.prog 98 #[.int .i64 n, .slice ad len cap] w.val (RetInts w.val.heap.size w.val A4)) := Lib.hid (fun w => hR4 _ _ (Later.self w.val) (HIv.out.to w))
              clear HR HZ4 hR1 hR2 hR3 hR4 HIv
              go_wp2_with (first | (go_at_call 31; (with_reducible refine (thread0 v (KF.out v) hl).mono ?_); rintro e _ ⟨v, rfl, rfl, hl⟩) | (go_at_call 19; (with_reducible refine (thread0 v (KB2.out v) hl).mono ?_); rintro e _ ⟨v, rfl, rfl, hl⟩) | (go_at_call 95; (with_reducible refine (threadL v (R1.out v) hl).mono ?_); rintro e _ ⟨v, ad, cp, rfl, rfl, hl⟩) | (go_at_call 96; (with_reducible refine (threadL v (R2.out v) hl).mono ?_); rintro e _ ⟨v, ad, cp, rfl, rfl, hl⟩) | (go_at_call 97; (with_reducible refine (threadL v (R3.out v) hl).mono ?_); rintro e _ ⟨v, ad, cp, rfl, rfl, hl⟩) | (go_at_call 98; (with_reducible refine (threadL v (R4.out v) hl).mono ?_); rintro e _ ⟨v, ad, cp, rfl, rfl, hl⟩) | (go_at_call 99; (with_reducible refine (threadE v (P1.out v) hl).mono ?_); rintro e _ ⟨v, ad, cp, rfl, rfl, hl⟩) | (go_at_call 100; (with_reducible refine (threadE v (P2.out v) hl).mono ?_); rintro e _ ⟨v, ad, cp, rfl, rfl, hl⟩) | (go_at_call 101; (with_reducible refine (threadE v (P3.out v) hl).mono ?_); rintro e _ ⟨v, ad, cp, rfl, rfl, hl⟩) | (go_at_call 102; (with_reducible refine (threadE v (P4.out v) hl).mono ?_); rintro e _ ⟨v, ad, cp, rfl, rfl, hl⟩) | (go_at_call 29; (with_reducible refine (thread_list v _ _ _ _ _ hl (by simp) (by simp) (by assumption)).mono ?_); rintro e _ ⟨v, rfl, rfl, hl⟩))
              go_ret
              exact Ret.of (HVv.out v) rfl
            · obtain ⟨rfl, rfl, rfl, rfl⟩ := HZ4.out h4
              have d0 : (e4 == 0) = false := by rw [beq_eq_false_iff_ne]; exact h4
              have KL : Hid (∀ (w : Later V.heap.size V) x cx, Calls Try.prog 29 #[.slice x 0 cx, .int .i64 e4, .slice none 0 0, .int .i64 e4] w.val (Ret w.val.heap.size w.val (.bool true))) := Lib.hid (fun w x cx => c_list_no (Later.self w.val) e4 h4 x cx)
              clear HR HZ4 HIv h4
              go_wp2_with (first | (go_at_call 31; (with_reducible refine (thread0 v (KF.out v) hl).mono ?_); rintro e _ ⟨v, rfl, rfl, hl⟩) | (go_at_call 19; (with_reducible refine (thread0 v (KB2.out v) hl).mono ?_); rintro e _ ⟨v, rfl, rfl, hl⟩) | (go_at_call 99; (with_reducible refine (threadE v (P1.out v) hl).mono ?_); rintro e _ ⟨v, ad, cp, rfl, rfl, hl⟩) | (go_at_call 100; (with_reducible refine (threadE v (P2.out v) hl).mono ?_); rintro e _ ⟨v, ad, cp, rfl, rfl, hl⟩) | (go_at_call 101; (with_reducible refine (threadE v (P3.out v) hl).mono ?_); rintro e _ ⟨v, ad, cp, rfl, rfl, hl⟩) | (go_at_call 102; (with_reducible refine (threadE v (P4.out v) hl).mono ?_); rintro e _ ⟨v, ad, cp, rfl, rfl, hl⟩) | (go_at_call 29; (with_reducible refine (thread0 v (KL.out v _ _) hl).mono ?_); rintro e _ ⟨v, rfl, rfl, hl⟩))
              go_ret
              exact Ret.of (HVv.out v) rfl

end Go.Proofs.Ytjpcelldbhdneaa
