/-
  rotaref.Stand.
-/
import Derived.Test.YtcljgnmlpfddiaaStandW
import Derived.Test.YtcljgnmlpfddiaaBox1
namespace Go.Proofs.Ytcljgnmlpfddiaa
open Go.RowKit
set_option linter.unusedVariables false

/-- the world that rotaref.Stand has made ahead of its function value -/
def madeS (w : World) (m : Nat) (al : Option Addr) (len capl br : Nat) : World :=
  ((w.alloc (.cells #[.int .i64 m] 3)).alloc (.cells #[.slice al len capl] 53)).alloc (.cells #[.func (.func 87) #[] #[.pointer (some ⟨br, 0, none⟩)]] 111)
theorem madeS_size (w : World) (m : Nat) (al : Option Addr) (len capl br : Nat) : (madeS w m al len capl br).heap.size = w.heap.size + 3 := by simp [madeS]
theorem madeS_cells (w : World) (m : Nat) (al : Option Addr) (len capl br : Nat) :
    RowAt1 (madeS w m al len capl br) w.heap.size 3 (.int .i64 m) ∧ RowAt1 (madeS w m al len capl br) (w.heap.size + 1) 53 (.slice al len capl) ∧ RowAt1 (madeS w m al len capl br) (w.heap.size + 2) 111 (.func (.func 87) #[] #[.pointer (some ⟨br, 0, none⟩)]) := by
  have t0 := row1_under (row1_under (show RowAt1 (w.alloc (.cells #[.int .i64 m] 3)) w.heap.size 3 (.int .i64 m) from heap_alloc_new _ _) (.cells #[.slice al len capl] 53)) (.cells #[.func (.func 87) #[] #[.pointer (some ⟨br, 0, none⟩)]] 111)
  have t1 := row1_under (show RowAt1 ((w.alloc (.cells #[.int .i64 m] 3)).alloc (.cells #[.slice al len capl] 53)) (w.alloc (.cells #[.int .i64 m] 3)).heap.size 53 (.slice al len capl) from heap_alloc_new _ _) (.cells #[.func (.func 87) #[] #[.pointer (some ⟨br, 0, none⟩)]] 111)
  have t2 : RowAt1 (madeS w m al len capl br) ((w.alloc (.cells #[.int .i64 m] 3)).alloc (.cells #[.slice al len capl] 53)).heap.size 111 (.func (.func 87) #[] #[.pointer (some ⟨br, 0, none⟩)]) := heap_alloc_new _ _
  refine ⟨t0, ?_, ?_⟩
  · simpa [madeS] using t1
  · simpa [madeS] using t2
theorem madeS_below (w : World) (m : Nat) (al : Option Addr) (len capl br : Nat) : Below w.heap.size w (madeS w m al len capl br) := by
  unfold madeS
  refine Below.alloc (Below.alloc (Below.alloc (Below.refl _ _) ?_ _) ?_ _) ?_ _ <;> simp <;> omega

/-- what rotaref.Stand gives back -/
def StandRes (r : Option (List Nat)) (v : Value) (w : World) : Prop := ∃ v1, v = .tuple #[v1, .bool r.isSome] ∧ Reads w.heap.size w v1 (ints (r.getD []))

set_option maxRecDepth 100000 in
set_option maxHeartbeats 8000000 in
theorem c_stand {B : Nat} {W : World} (u : Later B W) (m : Nat) (hm : m ≤ 8) (ls : List Nat) (h8 : ls.length ≤ 8) (hls : ∀ k, k < ls.length → ls.getD k 0 < bit m) (L : List Nat) (al : Option Addr) (capl br g c : Nat) (h : IntsAt B W al (ints ls))
    (hbr : br < B) (hg : g < B) (hc : W.cell? ⟨br, 0, none⟩ = some (.slice (some ⟨g, 0, none⟩) (bit m) c)) (hT : ITab W g (bit m) (fun j => (rk L j : Int))) :
    Calls Try.prog 86 #[.int .i64 m, .slice al (ints ls).length capl, .func (.func 87) #[] #[.pointer (some ⟨br, 0, none⟩)]] u.val (RetP B W (StandRes (rado m (gRef L) ls 0))) := by
  have hb := bit_le m hm
  have huB := u.size
  rw [ints_len]
  by_cases h0 : ls.length = 0
  · have d0 : ((ls.length : Int) == 0) = true := by rw [beq_iff_eq]; omega
    have hl : ls = [] := List.length_eq_zero_iff.1 h0
    have hR : rado m (gRef L) ls 0 = some [] := by rw [hl]; rfl
    rw [hR]
    clear hR
    go_enter Try.func86, Try.ntmps86
    go_wp2
    go_ret2
    exact RetP.mk (((u.alloc _).alloc _).alloc _) ⟨_, rfl, Reads.nil _ _⟩
  have d0 : ((ls.length : Int) == 0) = false := by rw [beq_eq_false_iff_ne]; omega
  have HU : Hid (∀ w : World, Below u.val.heap.size u.val w → ∃ u' : Later B W, u'.val = w) := Lib.hid (fun w hb => ⟨u.to w (hb.mono huB), rfl⟩)
  have HI : Hid (IntsAt u.val.heap.size u.val al (ints ls)) := Lib.hid (h.to u)
  have HC : Hid (u.val.cell? ⟨br, 0, none⟩ = some (.slice (some ⟨g, 0, none⟩) (bit m) c) ∧ ITab u.val g (bit m) (fun j => (rk L j : Int))) := Lib.hid ⟨by rw [u.cell hbr]; exact hc, hT.keep_at u.below hg⟩
  have hbr2 : br < u.val.heap.size := by omega
  have hg2 : g < u.val.heap.size := by omega
  clear h hc hT h0
  have hp1 : ∀ (args : Array Value) (w : World), (callFunc 141 args).run Try.prog w = .ok (.enter 141 args) w := fun _ _ => by kernel_rfl
  go_enter Try.func86, Try.ntmps86
  go_upto_region 3 with fail
  rw [show ((u.val.alloc (.cells #[.int .i64 m] 3)).alloc (.cells #[.slice al ls.length capl] 53)).alloc (.cells #[.func (.func 87) #[] #[.pointer (some ⟨br, 0, none⟩)]] 111) = madeS u.val m al ls.length capl br from rfl]
  have C3 := Lib.hid (madeS_cells u.val m al ls.length capl br)
  have S3 := Lib.hid (madeS_size u.val m al ls.length capl br)
  have B3 := Lib.hid (madeS_below u.val m al ls.length capl br)
  generalize madeS u.val m al ls.length capl br = w3 at *
  generalize u.val = V at *
  clear u huB
  have hsf := fun (a : Addr) (c : Array Value) (w : World) => run_store Try.prog w a (.func (.func 141) #[] c) .plain rfl
  have HX : Hid (Below V.heap.size V (w3.alloc (.cells #[.func (.func 141) #[] #[.pointer (some ⟨V.heap.size + 1, 0, none⟩), .pointer (some ⟨V.heap.size, 0, none⟩), .pointer (some ⟨V.heap.size + 1 + 1, 0, none⟩), .pointer (some ⟨w3.heap.size, 0, none⟩)]] 143))) := Lib.hid (B3.out.alloc (by have := S3.out; omega) _)
  have K : Hid (Calls Try.prog 141 #[.int .i64 0, .int .i64 0, .pointer (some ⟨V.heap.size + 1, 0, none⟩), .pointer (some ⟨V.heap.size, 0, none⟩), .pointer (some ⟨V.heap.size + 1 + 1, 0, none⟩), .pointer (some ⟨w3.heap.size, 0, none⟩)] (w3.alloc (.cells #[.func (.func 141) #[] #[.pointer (some ⟨V.heap.size + 1, 0, none⟩), .pointer (some ⟨V.heap.size, 0, none⟩), .pointer (some ⟨V.heap.size + 1 + 1, 0, none⟩), .pointer (some ⟨w3.heap.size, 0, none⟩)]] 143)) (RetP V.heap.size V (OptRow (rado m (gRef L) ls 0)))) := Lib.hid (by
    generalize hw4 : w3.alloc (.cells #[.func (.func 141) #[] #[.pointer (some ⟨V.heap.size + 1, 0, none⟩), .pointer (some ⟨V.heap.size, 0, none⟩), .pointer (some ⟨V.heap.size + 1 + 1, 0, none⟩), .pointer (some ⟨w3.heap.size, 0, none⟩)]] 143) = w4 at *
    obtain ⟨r0, r1, r2⟩ := C3.out
    have hs3 := S3.out
    have hsz : w4.heap.size = w3.heap.size + 1 := by rw [← hw4]; simp
    have k4 : RowAt1 w4 w3.heap.size 143 (.func (.func 141) #[] #[.pointer (some ⟨V.heap.size + 1, 0, none⟩), .pointer (some ⟨V.heap.size, 0, none⟩), .pointer (some ⟨V.heap.size + 1 + 1, 0, none⟩), .pointer (some ⟨w3.heap.size, 0, none⟩)]) := by rw [← hw4]; exact heap_alloc_new _ _
    have k0 : RowAt1 w4 V.heap.size 3 (.int .i64 m) := by rw [← hw4]; exact row1_under r0 _
    have k1 : RowAt1 w4 (V.heap.size + 1) 53 (.slice al ls.length capl) := by rw [← hw4]; exact row1_under r1 _
    have k2 : RowAt1 w4 (V.heap.size + 1 + 1) 111 (.func (.func 87) #[] #[.pointer (some ⟨br, 0, none⟩)]) := by rw [← hw4]; exact row1_under r2 _
    have hbel := HX.out
    have := c_standFrom w4.heap.size w4 m hm ls h8 hls L al capl (V.heap.size + 1) V.heap.size (V.heap.size + 1 + 1) w3.heap.size br ⟨by omega, by omega, by omega, by omega⟩ ((HI.out.later hbel).mono (by omega)) (by rw [ints_len]; exact k1.c0) k0.c0 k2.c0 k4.c0 (fun v s d hs hd => c_goodTell v m s br g c L d hm hs (by omega) (by omega) (by rw [hbel.cell (p := ⟨br, 0, none⟩) hbr2]; exact HC.out.1) (HC.out.2.keep_at hbel hg2) hd) ls.length 0 0 rfl (by omega) (by omega) (Later.self w4)
    rw [List.drop_zero] at this
    refine this.mono ?_
    rintro e _ ⟨v, rfl, hv, v4, rfl⟩
    exact ⟨v, rfl, hv, ⟨v4.val, hbel.trans (v4.below.mono (by omega)), by have := v4.size; omega⟩, rfl⟩)
  clear HX HC HI C3
  generalize rado m (gRef L) ls 0 = res at *
  go_upto_region 6 with (first | (go_at_call 141; (with_reducible refine (K.out).mono ?_); rintro e _ ⟨ov, rfl, hov, v2, rfl⟩))
  have HV := Lib.hid (HU.out v2.val v2.below)
  clear K HU B3
  rcases hov with ⟨h1, rfl⟩ | ⟨l, b2, off2, cp2, h1, rfl, hI2⟩
  · subst h1
    go_wp2
    go_ret2
    exact RetP.of HV.out ⟨_, rfl, Reads.nil _ _⟩
  · subst h1
    have HI2 := Lib.hid hI2
    clear hI2
    go_wp2
    go_ret2
    exact RetP.of HV.out ⟨_, rfl, ⟨_, _, rfl, HI2.out, by simp⟩⟩

end Go.Proofs.Ytcljgnmlpfddiaa
