
/-
  rotaref.Text.
-/
import Derived.Test.YtpfhgklajaigfaaDoorSsB
namespace Go.Proofs.YtpfhgklajaigfaaDoor
open Go.RowKit
set_option linter.unusedVariables false

set_option maxRecDepth 100000 in
set_option maxHeartbeats 8000000 in
theorem c_text {B : Nat} {W : World} (u : Later B W) (s : Nat) (hs : s < 256) : Calls Tryd.prog 10 #[.int .i64 (s : Nat), .string ⟨#[32]⟩] u.val (Ret B W (.string (strB (txT (elems s) (elems s).length)))) := by
  have KE : Hid (Calls Tryd.prog 14 #[.int .i64 (s : Nat)] u.val (RetInts u.val.heap.size u.val (ints (elems s)))) := Lib.hid (c_elements (Later.self u.val) s hs)
  have hb : (⟨#[32]⟩ : ByteArray) = strB [32] := rfl
  have hbs : (strB [32]).size = 1 := strB_size _
  have HEl : Hid (∀ k, k < (elems s).length → (elems s).getD k 0 < 8) := Lib.hid (fun k hk => by
    have : (elems s).getD k 0 ∈ elems s := by simp [hk]
    unfold elems at this
    rw [List.mem_filter, List.mem_range] at this
    exact this.1)
  have hel : (elems s).length ≤ 8 := sz_le s
  have HL := Lib.hid (txT_len (elems s))
  have HCat : Hid (∀ A : List Nat, strB A ++ strB [32] = strB (A ++ [32])) := Lib.hid (fun A => strB_app A [32])
  have HCat2 : Hid (∀ (A : List Nat) (d : Nat), strB A ++ strB [d] = strB (A ++ [d])) := Lib.hid (fun A d => strB_app A [d])
  have HSz : Hid (∀ A : List Nat, (strB A).size = A.length) := Lib.hid strB_size
  have h0 : (⟨#[]⟩ : ByteArray) = strB (txT (elems s) 0) := rfl
  rw [hb]
  clear hb
  obtain ⟨bl, hbl⟩ : ∃ bl, bl = strB [32] := ⟨_, rfl⟩
  rw [← hbl] at HCat hbs ⊢
  clear hbl
  have H0 := Lib.hid h0
  clear h0
  generalize hl : elems s = l at *
  clear hl
  go_enter Tryd.func10, Tryd.ntmps10
  go_upto_region 4 with (first | (go_at_call 14; (with_reducible refine (KE.out).mono ?_); rintro e _ ⟨_, rfl, ⟨ad, cp, rfl, hI, hcp⟩, v1, rfl⟩) | fail)
  have HI : Hid (IntsAt v1.val.heap.size v1.val ad (ints l)) := Lib.hid hI
  have HV : Hid (∀ w : Later v1.val.heap.size v1.val, ∃ z : Later B W, z.val = w.val) := Lib.hid (fun w => ⟨(u.up v1).up w, rfl⟩)
  have hil : (ints l).length = l.length := ints_len _
  rw [hil]
  clear hI hcp KE
  obtain ⟨z, hz⟩ : ∃ z : Later v1.val.heap.size v1.val, z.val = v1.val := ⟨Later.self _, rfl⟩
  rw [← hz]
  clear hz
  generalize v1.val = V at *
  clear v1
  rw [H0.out]
  go_wp2
  go_loopw [6, 7] (fun t i wr => ∃ (k : Nat) (v : Later V.heap.size V), k ≤ l.length ∧ t = .string (strB (txT l k)) ∧ i = .int .i64 k ∧ wr = v.val) (fun _ i _ => l.length - (intOf i).toNat)
  case atStart => exact ⟨0, z, by omega, rfl, rfl, rfl⟩
  case round =>
    clear z
    obtain ⟨k, v, hk, rfl, rfl, rfl⟩ := hrel
    by_cases hlt : k < l.length
    · obtain ⟨b, off, rfl, hbB, hcell⟩ := HI.out.at (k := k) (by rw [ints_len]; exact hlt)
      have c0 : ∀ v : Later V.heap.size V, v.val.cell? ⟨b, off + k, none⟩ = some (.int .i64 ((l.getD k 0 : Nat) : Int)) := fun v => by rw [← ints_getD]; exact hcell v k (by rw [ints_len]; exact hlt)
      have hx8 := HEl.out k hlt
      have hln := HL.out k
      have KI : Hid (∀ v : Later V.heap.size V, Calls Tryd.prog 15 #[.int .i64 ((l.getD k 0 : Nat) : Int)] v.val (Ret V.heap.size V (.string (strB [48 + l.getD k 0])))) := Lib.hid (fun v => c_itoa v _ hx8)
      have hs2 : (strB [48 + l.getD k 0]).size = 1 := HSz.out _
      clear hcell
      by_cases hk0 : 0 < k
      · have d0 : decide ((0 : Int) < (k : Int)) = true := by simp; omega
        have d0n : decide (0 < k) = true := by simp; omega
        have HS : Hid (txT l (k + 1) = txT l k ++ [32] ++ [48 + l.getD k 0]) := Lib.hid (by rw [txT, if_pos hk0])
        have hc1 := HCat.out (txT l k)
        have hc2 := HCat2.out (txT l k ++ [32]) (48 + l.getD k 0)
        have hz1 := HSz.out (txT l k)
        have hz2 := HSz.out (txT l k ++ [32])
        rw [List.length_append] at hz2
        rw [← HS.out] at hc2
        have hk1 := Lib.hid hk0
        clear hk0
        obtain ⟨T2, hT2⟩ : ∃ T2, T2 = strB (txT l (k + 1)) := ⟨_, rfl⟩
        rw [← hT2] at hc2
        have HT2 := Lib.hid hT2
        clear hT2
        generalize strB (txT l k ++ [32]) = T1 at *
        generalize strB (txT l k) = T0 at *
        generalize strB [48 + l.getD k 0] = D at *
        generalize l.getD k 0 = x at *
        have q1 : T0.size + bl.size ≤ 9223372036854775807 := by rw [hz1, hbs]; omega
        have q2 : T1.size + D.size ≤ 9223372036854775807 := by rw [hz2, hs2]; simp; omega
        have a1 : ∀ w : World, (Op.stringOp .add T0 bl).run Tryd.prog w = .ok (.string T1) w := fun w => by rw [run_string_add_sum w T0 bl q1, hc1]
        have a2 : ∀ w : World, (Op.stringOp .add T1 D).run Tryd.prog w = .ok (.string T2) w := fun w => by rw [run_string_add_sum w T1 D q2, hc2]
        have q1' : ¬ 9223372036854775807 < T0.size + bl.size := by omega
        have q2' : ¬ 9223372036854775807 < T1.size + D.size := by omega
        clear hz1 hz2 hs2 hbs q1 q2
        go_wp2_with (first | (go_at_call 15; (with_reducible refine (KI.out _).mono ?_); rintro e _ ⟨rfl, v2, rfl⟩) | fail)
        go_roundw
        case rel => exact ⟨k+1, v2, by omega, by rw [HT2.out], by go_num, rfl⟩
        case measure => simp [intOf]; omega
      · have d0 : decide ((0 : Int) < (k : Int)) = false := by simp; omega
        have d0n : decide (0 < k) = false := by simp; omega
        have HS : Hid (txT l (k + 1) = txT l k ++ [48 + l.getD k 0]) := Lib.hid (by rw [txT, if_neg hk0])
        have hc2 := HCat2.out (txT l k) (48 + l.getD k 0)
        have hz1 := HSz.out (txT l k)
        rw [← HS.out] at hc2
        have hk1 := Lib.hid hk0
        clear hk0
        obtain ⟨T2, hT2⟩ : ∃ T2, T2 = strB (txT l (k + 1)) := ⟨_, rfl⟩
        rw [← hT2] at hc2
        have HT2 := Lib.hid hT2
        clear hT2
        generalize strB (txT l k) = T0 at *
        generalize strB [48 + l.getD k 0] = D at *
        generalize l.getD k 0 = x at *
        have q2 : T0.size + D.size ≤ 9223372036854775807 := by rw [hz1, hs2]; omega
        have q2' : ¬ 9223372036854775807 < T0.size + D.size := by omega
        have a2 : ∀ w : World, (Op.stringOp .add T0 D).run Tryd.prog w = .ok (.string T2) w := fun w => by rw [run_string_add_sum w T0 D q2, hc2]
        clear hz1 hs2 hbs q2
        go_wp2_with (first | (go_at_call 15; (with_reducible refine (KI.out _).mono ?_); rintro e _ ⟨rfl, v2, rfl⟩) | fail)
        go_roundw
        case rel => exact ⟨k+1, v2, by omega, by rw [HT2.out], by go_num, rfl⟩
        case measure => simp [intOf]; omega
    · have hke : k = l.length := by omega
      subst hke
      go_wp2
      go_ret
      exact Ret.of (HV.out v) rfl

end Go.Proofs.YtpfhgklajaigfaaDoor
