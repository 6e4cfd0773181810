/-
  hall.Rado; hall.Rado and hall.RadoBar where a check fails.
-/
import Derived.Test.YtcljgnmlpfddiaaRadoW
import Derived.Test.YtcljgnmlpfddiaaAxRanks
namespace Go.Proofs.Ytcljgnmlpfddiaa
open Go.RowKit
set_option linter.unusedVariables false

/-- a list and an error for what a search has found -/
def RadoIs (r : Option (List Nat)) (xs : List Nat) (e : Int) : Prop := (r = some xs ∧ xs = xs ∧ e = 0) ∨ (r = none ∧ xs = [] ∧ e = 5)
theorem RadoIs.ex (r : Option (List Nat)) : ∃ xs e, RadoIs r xs e := by
  cases r with
  | none => exact ⟨[], 5, .inr ⟨rfl, rfl, rfl⟩⟩
  | some l => exact ⟨l, 0, .inl ⟨rfl, rfl, rfl⟩⟩

/-- the world that hall.Rado has made ahead of its function value -/
def madeR (w : World) (g c n bl bm : Nat) : World :=
  ((w.alloc (.cells #[.slice (some ⟨g, 0, none⟩) n c] 53)).alloc (.cells #[.slice none 0 0] 53)).alloc (.cells #[.func (.func 139) #[] #[.pointer (some ⟨bl, 0, none⟩), .pointer (some ⟨bm, 0, none⟩), .pointer (some ⟨w.heap.size, 0, none⟩), .pointer (some ⟨w.heap.size + 1, 0, none⟩), .pointer (some ⟨w.heap.size + 1 + 1, 0, none⟩)]] 37)
theorem madeR_size (w : World) (g c n bl bm : Nat) : (madeR w g c n bl bm).heap.size = w.heap.size + 3 := by simp [madeR]
theorem madeR_cells (w : World) (g c n bl bm : Nat) :
    RowAt1 (madeR w g c n bl bm) w.heap.size 53 (.slice (some ⟨g, 0, none⟩) n c) ∧ RowAt1 (madeR w g c n bl bm) (w.heap.size + 1) 53 (.slice none 0 0) ∧ RowAt1 (madeR w g c n bl bm) (w.heap.size + 1 + 1) 37 (.func (.func 139) #[] #[.pointer (some ⟨bl, 0, none⟩), .pointer (some ⟨bm, 0, none⟩), .pointer (some ⟨w.heap.size, 0, none⟩), .pointer (some ⟨w.heap.size + 1, 0, none⟩), .pointer (some ⟨w.heap.size + 1 + 1, 0, none⟩)]) := by
  have t0 := row1_under (row1_under (show RowAt1 (w.alloc (.cells #[.slice (some ⟨g, 0, none⟩) n c] 53)) w.heap.size 53 (.slice (some ⟨g, 0, none⟩) n c) from heap_alloc_new _ _) (.cells #[.slice none 0 0] 53)) (.cells #[.func (.func 139) #[] #[.pointer (some ⟨bl, 0, none⟩), .pointer (some ⟨bm, 0, none⟩), .pointer (some ⟨w.heap.size, 0, none⟩), .pointer (some ⟨w.heap.size + 1, 0, none⟩), .pointer (some ⟨w.heap.size + 1 + 1, 0, none⟩)]] 37)
  have t1 := row1_under (show RowAt1 ((w.alloc (.cells #[.slice (some ⟨g, 0, none⟩) n c] 53)).alloc (.cells #[.slice none 0 0] 53)) (w.alloc (.cells #[.slice (some ⟨g, 0, none⟩) n c] 53)).heap.size 53 (.slice none 0 0) from heap_alloc_new _ _) (.cells #[.func (.func 139) #[] #[.pointer (some ⟨bl, 0, none⟩), .pointer (some ⟨bm, 0, none⟩), .pointer (some ⟨w.heap.size, 0, none⟩), .pointer (some ⟨w.heap.size + 1, 0, none⟩), .pointer (some ⟨w.heap.size + 1 + 1, 0, none⟩)]] 37)
  have t2 : RowAt1 (madeR w g c n bl bm) ((w.alloc (.cells #[.slice (some ⟨g, 0, none⟩) n c] 53)).alloc (.cells #[.slice none 0 0] 53)).heap.size 37 (.func (.func 139) #[] #[.pointer (some ⟨bl, 0, none⟩), .pointer (some ⟨bm, 0, none⟩), .pointer (some ⟨w.heap.size, 0, none⟩), .pointer (some ⟨w.heap.size + 1, 0, none⟩), .pointer (some ⟨w.heap.size + 1 + 1, 0, none⟩)]) := heap_alloc_new _ _
  refine ⟨t0, ?_, ?_⟩
  · rw [show (w.alloc (.cells #[.slice (some ⟨g, 0, none⟩) n c] 53)).heap.size = w.heap.size + 1 by simp] at t1
    exact t1
  · rw [show ((w.alloc (.cells #[.slice (some ⟨g, 0, none⟩) n c] 53)).alloc (.cells #[.slice none 0 0] 53)).heap.size = w.heap.size + 1 + 1 by simp] at t2
    exact t2
theorem madeR_below (w : World) (g c n bl bm : Nat) : Below w.heap.size w (madeR w g c n bl bm) := by
  unfold madeR
  refine Below.alloc (Below.alloc (Below.alloc (Below.refl _ _) ?_ _) ?_ _) ?_ _ <;> simp <;> omega

set_option maxRecDepth 100000 in
set_option maxHeartbeats 8000000 in
theorem c_rado {B : Nat} {W : World} (u : Later B W) (m : Nat) (hm : m ≤ 8) (l : List Int) (a : Option Addr) (cap : Nat) (ls : List Nat) (b : Option Addr) (capb : Nat) (h : IntsAt B W a l) (hlen : l.length ≤ 4611686018427387904) (he : MatIs (m : Int) l 0)
    (hb : IntsAt B W b (ints ls)) (h8 : ls.length ≤ 8) (hls : ∀ k, k < ls.length → ls.getD k 0 < bit m) (hLs : LisIs (m : Int) (ints ls) 0) (xs : List Nat) (er : Int) (hr : RadoIs (rado m (gProg (toN l)) ls 0) xs er) :
    Calls Try.prog 83 #[.agg #[.int .i64 m, .slice a l.length cap], .slice b (ints ls).length capb] u.val (RetP B W (ListE (ints xs) er)) := by
  have HRs := Lib.hid hr
  have hbm := bit_le m hm
  have huB := u.size
  have HU : Hid (∀ w : World, Below u.val.heap.size u.val w → ∃ u' : Later B W, u'.val = w) := Lib.hid (fun w hb => ⟨u.to w (hb.mono huB), rfl⟩)
  have HIb : Hid (IntsAt u.val.heap.size u.val b (ints ls)) := Lib.hid (hb.to u)
  have T0 : Hid (Two ((u.val.alloc (.cells #[.int .i64 m, .slice a l.length cap] 60)).alloc (.cells #[.slice b ls.length capb] 53)) u.val.heap.size 60 (.int .i64 m) (.slice a l.length cap)) := Lib.hid (two_under (Two.new _ _ _ _) _)
  have T1 : Hid (RowAt1 ((u.val.alloc (.cells #[.int .i64 m, .slice a l.length cap] 60)).alloc (.cells #[.slice b ls.length capb] 53)) (u.val.heap.size + 1) 53 (.slice b ls.length capb)) := Lib.hid (by
    have h1 : RowAt1 ((u.val.alloc (.cells #[.int .i64 m, .slice a l.length cap] 60)).alloc (.cells #[.slice b ls.length capb] 53)) (u.val.alloc (.cells #[.int .i64 m, .slice a l.length cap] 60)).heap.size 53 (.slice b ls.length capb) := heap_alloc_new _ _
    rwa [show (u.val.alloc (.cells #[.int .i64 m, .slice a l.length cap] 60)).heap.size = u.val.heap.size + 1 by simp] at h1)
  have HB2 : Hid (Below u.val.heap.size u.val ((u.val.alloc (.cells #[.int .i64 m, .slice a l.length cap] 60)).alloc (.cells #[.slice b ls.length capb] 53))) := Lib.hid (((Below.refl _ _).alloc (Nat.le_refl _) _).alloc (by simp) _)
  have hsz2 : Hid (((u.val.alloc (.cells #[.int .i64 m, .slice a l.length cap] 60)).alloc (.cells #[.slice b ls.length capb] 53)).heap.size = u.val.heap.size + 2) := Lib.hid (by simp)
  have hI : IntsAt ((u.val.alloc (.cells #[.int .i64 m, .slice a l.length cap] 60)).alloc (.cells #[.slice b ls.length capb] 53)).heap.size ((u.val.alloc (.cells #[.int .i64 m, .slice a l.length cap] 60)).alloc (.cells #[.slice b ls.length capb] 53)) a l := ((h.to u).later HB2.out).mono (by have := hsz2.out; omega)
  have hIb : IntsAt ((u.val.alloc (.cells #[.int .i64 m, .slice a l.length cap] 60)).alloc (.cells #[.slice b ls.length capb] 53)).heap.size ((u.val.alloc (.cells #[.int .i64 m, .slice a l.length cap] 60)).alloc (.cells #[.slice b ls.length capb] 53)) b (ints ls) := (HIb.out.later HB2.out).mono (by have := hsz2.out; omega)
  have q0 : ∀ w : Later ((u.val.alloc (.cells #[.int .i64 m, .slice a l.length cap] 60)).alloc (.cells #[.slice b ls.length capb] 53)).heap.size ((u.val.alloc (.cells #[.int .i64 m, .slice a l.length cap] 60)).alloc (.cells #[.slice b ls.length capb] 53)), w.val.cell? ⟨u.val.heap.size, 0, none⟩ = some (.int .i64 m) := fun w => (T0.out.keep w.below).c0
  have q1 : ∀ w : Later ((u.val.alloc (.cells #[.int .i64 m, .slice a l.length cap] 60)).alloc (.cells #[.slice b ls.length capb] 53)).heap.size ((u.val.alloc (.cells #[.int .i64 m, .slice a l.length cap] 60)).alloc (.cells #[.slice b ls.length capb] 53)), w.val.cell? ⟨u.val.heap.size, 1, none⟩ = some (.slice a l.length cap) := fun w => (T0.out.keep w.below).c1
  have q2 : ∀ w : Later ((u.val.alloc (.cells #[.int .i64 m, .slice a l.length cap] 60)).alloc (.cells #[.slice b ls.length capb] 53)).heap.size ((u.val.alloc (.cells #[.int .i64 m, .slice a l.length cap] 60)).alloc (.cells #[.slice b ls.length capb] 53)), w.val.cell? ⟨u.val.heap.size + 1, 0, none⟩ = some (.slice b ls.length capb) := fun w => (T1.out.keep w.below).c0
  have p0 : ((u.val.alloc (.cells #[.int .i64 m, .slice a l.length cap] 60)).alloc (.cells #[.slice b ls.length capb] 53)).cell? ⟨u.val.heap.size, 0, none⟩ = some (.int .i64 m) := T0.out.c0
  have p1 : ((u.val.alloc (.cells #[.int .i64 m, .slice a l.length cap] 60)).alloc (.cells #[.slice b ls.length capb] 53)).cell? ⟨u.val.heap.size, 1, none⟩ = some (.slice a l.length cap) := T0.out.c1
  have KC : Hid (Calls Try.prog 136 #[.agg #[.int .i64 m, .slice a l.length cap]] ((u.val.alloc (.cells #[.int .i64 m, .slice a l.length cap] 60)).alloc (.cells #[.slice b ls.length capb] 53)) (Ret ((u.val.alloc (.cells #[.int .i64 m, .slice a l.length cap] 60)).alloc (.cells #[.slice b ls.length capb] 53)).heap.size ((u.val.alloc (.cells #[.int .i64 m, .slice a l.length cap] 60)).alloc (.cells #[.slice b ls.length capb] 53)) (.int .i64 0))) := Lib.hid (c_axCheck (Later.self _) m l a cap 0 hI hlen he)
  have KH := Lib.hid (fun v : Later ((u.val.alloc (.cells #[.int .i64 m, .slice a l.length cap] 60)).alloc (.cells #[.slice b ls.length capb] 53)).heap.size ((u.val.alloc (.cells #[.int .i64 m, .slice a l.length cap] 60)).alloc (.cells #[.slice b ls.length capb] 53)) => c_hallCheck v m (ints ls) b capb 0 hIb (by rw [ints_len]; omega) hLs)
  have KR := Lib.hid (fun v : Later ((u.val.alloc (.cells #[.int .i64 m, .slice a l.length cap] 60)).alloc (.cells #[.slice b ls.length capb] 53)).heap.size ((u.val.alloc (.cells #[.int .i64 m, .slice a l.length cap] 60)).alloc (.cells #[.slice b ls.length capb] 53)) => c_axRanks v m hm l a cap hI hlen he)
  have hp1 : ∀ (args : Array Value) (w : World), (callFunc 139 args).run Try.prog w = .ok (.enter 139 args) w := fun _ _ => by kernel_rfl
  have hsf := fun (a : Addr) (c : Array Value) (w : World) => run_store Try.prog w a (.func (.func 139) #[] c) .plain rfl
  have HLs := Lib.hid hls
  rw [ints_len] at KH
  rw [ints_len]
  clear h hb hI hIb he hls hLs hr
  go_enter Try.func83, Try.ntmps83
  go_upto_region 8 with (first | (go_at_call 136; ((with_reducible refine (KC.out).mono ?_); rintro e _ ⟨rfl, v1, rfl⟩)) | (go_at_call 137; ((with_reducible refine (KH.out _).mono ?_); rintro e _ ⟨rfl, v1, rfl⟩)) | (go_at_call 138; ((with_reducible refine (KR.out _).mono ?_); rintro e _ ⟨_, rfl, ⟨g, c, rfl, hT⟩, v1, rfl⟩)))
  have HT := Lib.hid hT
  have HBv : Hid (Below u.val.heap.size u.val v1.val) := Lib.hid (HB2.out.trans (v1.below.mono (by have := hsz2.out; omega)))
  have HTv : Hid (Two v1.val u.val.heap.size 60 (.int .i64 m) (.slice a l.length cap)) := Lib.hid (T0.out.keep v1.below)
  have HTw : Hid (RowAt1 v1.val (u.val.heap.size + 1) 53 (.slice b ls.length capb)) := Lib.hid (T1.out.keep v1.below)
  have hvs : Hid (u.val.heap.size + 2 ≤ v1.val.heap.size) := Lib.hid (by have := v1.size; have := hsz2.out; omega)
  clear hT KC KH KR q0 q1 q2 p0 p1 T0 T1 HB2 hsz2
  generalize toN l = L at *
  generalize v1.val = V at *
  generalize u.val = U at *
  go_upto_region 11 with fail
  rw [show ((V.alloc (.cells #[.slice (some ⟨g, 0, none⟩) (bit m) c] 53)).alloc (.cells #[.slice none 0 0] 53)).alloc (.cells #[.func (.func 139) #[] #[.pointer (some ⟨U.heap.size + 1, 0, none⟩), .pointer (some ⟨U.heap.size, 0, none⟩), .pointer (some ⟨V.heap.size, 0, none⟩), .pointer (some ⟨V.heap.size + 1, 0, none⟩), .pointer (some ⟨V.heap.size + 1 + 1, 0, none⟩)]] 37) = madeR V g c (bit m) (U.heap.size + 1) U.heap.size from rfl]
  have C3 := Lib.hid (madeR_cells V g c (bit m) (U.heap.size + 1) U.heap.size)
  have S3 := Lib.hid (madeR_size V g c (bit m) (U.heap.size + 1) U.heap.size)
  have B3 := Lib.hid (madeR_below V g c (bit m) (U.heap.size + 1) U.heap.size)
  have R2 : (madeR V g c (bit m) (U.heap.size + 1) U.heap.size).cell? ⟨V.heap.size + 1 + 1, 0, none⟩ = some (.func (.func 139) #[] #[.pointer (some ⟨U.heap.size + 1, 0, none⟩), .pointer (some ⟨U.heap.size, 0, none⟩), .pointer (some ⟨V.heap.size, 0, none⟩), .pointer (some ⟨V.heap.size + 1, 0, none⟩), .pointer (some ⟨V.heap.size + 1 + 1, 0, none⟩)]) := C3.out.2.2.c0
  generalize madeR V g c (bit m) (U.heap.size + 1) U.heap.size = w6 at *
  have H06 : Hid (Below U.heap.size U w6) := Lib.hid (HBv.out.trans (B3.out.mono (by have := hvs.out; omega)))
  have K : Hid (Calls Try.prog 139 #[.int .i64 0, .int .i64 0, .pointer (some ⟨U.heap.size + 1, 0, none⟩), .pointer (some ⟨U.heap.size, 0, none⟩), .pointer (some ⟨V.heap.size, 0, none⟩), .pointer (some ⟨V.heap.size + 1, 0, none⟩), .pointer (some ⟨V.heap.size + 1 + 1, 0, none⟩)] w6 (RadoPost w6.heap.size (V.heap.size + 1) w6 (rado m (gProg L) ls 0) [])) := Lib.hid (by
    obtain ⟨r0, r1, r2⟩ := C3.out
    have hs3 := S3.out
    have hv2 := hvs.out
    have hbel := B3.out
    have hgl := HT.out.lt
    have := c_radoFrom w6.heap.size (V.heap.size + 1) g c w6 m hm ls h8 HLs.out L b none capb 0 0 (U.heap.size + 1) U.heap.size V.heap.size (V.heap.size + 1 + 1) (Nat.le_refl _) (by omega) ⟨by omega, by omega, by omega, by omega⟩ ⟨by omega, by omega, by omega, by omega⟩ ((HIb.out.later H06.out).mono (by omega)) (by omega) (HT.out.keep hbel) (HTw.out.keep hbel).c0 (HTv.out.keep hbel).c0 r0.c0 r2.c0 ls.length 0 0 [] rfl (by omega) (by omega) rfl ⟨w6, rfl, rfl, rfl, Nat.le_refl _, Nat.le_refl _, fun _ _ _ => rfl⟩ ⟨none, 0, r1, Own.nil _ _⟩
    rw [List.drop_zero] at this
    exact this)
  have HUa : Hid (∀ v : Aside w6.heap.size (V.heap.size + 1) w6, ∃ u' : Later B W, u'.val = v.val) := Lib.hid (fun v => HU.out v.val (H06.out.trans (v.below (by have := H06.out.size; omega) (by have := hvs.out; omega))))
  clear C3 S3 B3 H06 HT HBv HTv HTw hvs HU HIb HLs
  rcases HRs.out with ⟨hR, hx, hee⟩ | ⟨hR, hx, hee⟩
  case inr =>
    subst hx hee
    have K2 : Hid (Calls Try.prog 139 #[.int .i64 0, .int .i64 0, .pointer (some ⟨U.heap.size + 1, 0, none⟩), .pointer (some ⟨U.heap.size, 0, none⟩), .pointer (some ⟨V.heap.size, 0, none⟩), .pointer (some ⟨V.heap.size + 1, 0, none⟩), .pointer (some ⟨V.heap.size + 1 + 1, 0, none⟩)] w6 (Ret B W (.bool false))) := Lib.hid (K.out.mono (by
      rintro e _ ⟨v4, rfl, h⟩
      rcases h with ⟨l, h1, _⟩ | ⟨_, h2, h3⟩
      · rw [hR] at h1; cases h1
      · obtain ⟨u', hu'⟩ := HUa.out v4
        exact ⟨h2, u', hu'.symm⟩))
    clear K HUa hR
    go_wp2_with (first | (go_at_call 139; (with_reducible refine (K2.out).mono ?_); rintro e _ ⟨rfl, v4, rfl⟩))
    go_ret2
    exact RetP.mk v4 ListE.no
  case inl =>
    subst hee
    have K2 : Hid (Calls Try.prog 139 #[.int .i64 0, .int .i64 0, .pointer (some ⟨U.heap.size + 1, 0, none⟩), .pointer (some ⟨U.heap.size, 0, none⟩), .pointer (some ⟨V.heap.size, 0, none⟩), .pointer (some ⟨V.heap.size + 1, 0, none⟩), .pointer (some ⟨V.heap.size + 1 + 1, 0, none⟩)] w6 (fun e w' => e = .returned (.bool true) ∧ ∃ (u' : Later B W) (ad : Option Addr) (cp : Nat), w' = u'.val ∧ u'.val.cell? ⟨V.heap.size + 1, 0, none⟩ = some (.slice ad (ints xs).length cp) ∧ Own w6.heap.size u'.val ad cp (ints xs))) := Lib.hid (K.out.mono (by
      rintro e _ ⟨v4, rfl, h⟩
      rcases h with ⟨l', h1, h2, ad, cp, h3, h4⟩ | ⟨h1, _⟩
      · rw [hR] at h1
        cases h1
        obtain ⟨u', hu'⟩ := HUa.out v4
        rw [List.nil_append] at h3 h4
        exact ⟨h2, u', ad, cp, hu'.symm, by rw [hu']; exact h3.c0, by rw [hu']; exact h4⟩
      · rw [hR] at h1; cases h1))
    clear K HUa hR
    go_wp2_with (first | (go_at_call 139; (with_reducible refine (K2.out).mono ?_); rintro e _ ⟨rfl, v4, ad4, cp4, rfl, hc4, ho4⟩; have HO4 := Lib.hid ho4; clear ho4))
    go_ret2
    exact RetP.mk v4 (ListE.mk (Reads.of_own HO4.out))


set_option maxRecDepth 100000 in
set_option maxHeartbeats 4000000 in
theorem c_rado_no {B : Nat} {W : World} (u : Later B W) (n : Int) (l : List Int) (a : Option Addr) (cap : Nat) (ls : List Int) (b : Option Addr) (capb : Nat) (e e2 : Int) (h : IntsAt B W a l) (hlen : l.length ≤ 4611686018427387904) (he : MatIs n l e) (hb : IntsAt B W b ls) (hlb : ls.length ≤ 4611686018427387904) (hLs : LisIs n ls e2) (hno : (if e = 0 then e2 else e) ≠ 0) :
    Calls Try.prog 83 #[.agg #[.int .i64 n, .slice a l.length cap], .slice b ls.length capb] u.val (RetP B W (ListE [] (if e = 0 then e2 else e))) := by
  have T0 : Hid (Two ((u.val.alloc (.cells #[.int .i64 n, .slice a l.length cap] 60)).alloc (.cells #[.slice b ls.length capb] 53)) u.val.heap.size 60 (.int .i64 n) (.slice a l.length cap)) := Lib.hid (two_under (Two.new _ _ _ _) _)
  have T1 : Hid (RowAt1 ((u.val.alloc (.cells #[.int .i64 n, .slice a l.length cap] 60)).alloc (.cells #[.slice b ls.length capb] 53)) (u.val.heap.size + 1) 53 (.slice b ls.length capb)) := Lib.hid (by
    have h1 : RowAt1 ((u.val.alloc (.cells #[.int .i64 n, .slice a l.length cap] 60)).alloc (.cells #[.slice b ls.length capb] 53)) (u.val.alloc (.cells #[.int .i64 n, .slice a l.length cap] 60)).heap.size 53 (.slice b ls.length capb) := heap_alloc_new _ _
    rwa [show (u.val.alloc (.cells #[.int .i64 n, .slice a l.length cap] 60)).heap.size = u.val.heap.size + 1 by simp] at h1)
  have q2 : ∀ w : Later ((u.val.alloc (.cells #[.int .i64 n, .slice a l.length cap] 60)).alloc (.cells #[.slice b ls.length capb] 53)).heap.size ((u.val.alloc (.cells #[.int .i64 n, .slice a l.length cap] 60)).alloc (.cells #[.slice b ls.length capb] 53)), w.val.cell? ⟨u.val.heap.size + 1, 0, none⟩ = some (.slice b ls.length capb) := fun w => (T1.out.keep w.below).c0
  have hI : IntsAt ((u.val.alloc (.cells #[.int .i64 n, .slice a l.length cap] 60)).alloc (.cells #[.slice b ls.length capb] 53)).heap.size ((u.val.alloc (.cells #[.int .i64 n, .slice a l.length cap] 60)).alloc (.cells #[.slice b ls.length capb] 53)) a l := h.to ((u.alloc _).alloc _)
  have hIb : IntsAt ((u.val.alloc (.cells #[.int .i64 n, .slice a l.length cap] 60)).alloc (.cells #[.slice b ls.length capb] 53)).heap.size ((u.val.alloc (.cells #[.int .i64 n, .slice a l.length cap] 60)).alloc (.cells #[.slice b ls.length capb] 53)) b ls := hb.to ((u.alloc _).alloc _)
  have HV : Hid (∀ v : Later ((u.val.alloc (.cells #[.int .i64 n, .slice a l.length cap] 60)).alloc (.cells #[.slice b ls.length capb] 53)).heap.size ((u.val.alloc (.cells #[.int .i64 n, .slice a l.length cap] 60)).alloc (.cells #[.slice b ls.length capb] 53)), ∃ w : Later B W, w.val = v.val) := Lib.hid (fun v => ⟨((u.alloc _).alloc _).up v, rfl⟩)
  have q0 : ∀ w : Later ((u.val.alloc (.cells #[.int .i64 n, .slice a l.length cap] 60)).alloc (.cells #[.slice b ls.length capb] 53)).heap.size ((u.val.alloc (.cells #[.int .i64 n, .slice a l.length cap] 60)).alloc (.cells #[.slice b ls.length capb] 53)), w.val.cell? ⟨u.val.heap.size, 0, none⟩ = some (.int .i64 n) := fun w => (T0.out.keep w.below).c0
  have p0 : ((u.val.alloc (.cells #[.int .i64 n, .slice a l.length cap] 60)).alloc (.cells #[.slice b ls.length capb] 53)).cell? ⟨u.val.heap.size, 0, none⟩ = some (.int .i64 n) := T0.out.c0
  have p1 : ((u.val.alloc (.cells #[.int .i64 n, .slice a l.length cap] 60)).alloc (.cells #[.slice b ls.length capb] 53)).cell? ⟨u.val.heap.size, 1, none⟩ = some (.slice a l.length cap) := T0.out.c1
  have KC : Hid (Calls Try.prog 136 #[.agg #[.int .i64 n, .slice a l.length cap]] ((u.val.alloc (.cells #[.int .i64 n, .slice a l.length cap] 60)).alloc (.cells #[.slice b ls.length capb] 53)) (Ret ((u.val.alloc (.cells #[.int .i64 n, .slice a l.length cap] 60)).alloc (.cells #[.slice b ls.length capb] 53)).heap.size ((u.val.alloc (.cells #[.int .i64 n, .slice a l.length cap] 60)).alloc (.cells #[.slice b ls.length capb] 53)) (.int .i64 e))) := Lib.hid (c_axCheck (Later.self _) n l a cap e hI hlen he)
  have KH := Lib.hid (fun v : Later ((u.val.alloc (.cells #[.int .i64 n, .slice a l.length cap] 60)).alloc (.cells #[.slice b ls.length capb] 53)).heap.size ((u.val.alloc (.cells #[.int .i64 n, .slice a l.length cap] 60)).alloc (.cells #[.slice b ls.length capb] 53)) => c_hallCheck v n ls b capb e2 hIb hlb hLs)
  clear h hb hI hIb he hLs T0
  rcases ieq e 0 with ⟨g, d1, d2⟩ | ⟨g, d1, d2⟩
  · subst g
    rw [if_pos rfl] at hno ⊢
    have d3 : (e2 != 0) = true := by rw [bne_iff_ne]; exact hno
    clear hno
    go_enter Try.func83, Try.ntmps83
    go_wp2_with (first | (go_at_call 136; ((with_reducible refine (KC.out).mono ?_); rintro e _ ⟨rfl, v1, rfl⟩)) | (go_at_call 137; ((with_reducible refine (KH.out _).mono ?_); rintro e _ ⟨rfl, v1, rfl⟩)))
    go_ret2
    exact RetP.of (HV.out v1) ListE.no
  · rw [if_neg g]
    clear hno g
    go_enter Try.func83, Try.ntmps83
    go_wp2_with (first | (go_at_call 136; ((with_reducible refine (KC.out).mono ?_); rintro e _ ⟨rfl, v1, rfl⟩)))
    go_ret2
    exact RetP.of (HV.out v1) ListE.no

set_option maxRecDepth 100000 in
set_option maxHeartbeats 4000000 in
theorem c_radoBar_no {B : Nat} {W : World} (u : Later B W) (n : Int) (l : List Int) (a : Option Addr) (cap : Nat) (ls : List Int) (b : Option Addr) (capb : Nat) (e e2 : Int) (h : IntsAt B W a l) (hlen : l.length ≤ 4611686018427387904) (he : MatIs n l e) (hb : IntsAt B W b ls) (hlb : ls.length ≤ 4611686018427387904) (hLs : LisIs n ls e2) (hno : (if e = 0 then e2 else e) ≠ 0) :
    Calls Try.prog 84 #[.agg #[.int .i64 n, .slice a l.length cap], .slice b ls.length capb] u.val (Ret B W (.tuple #[.int .i64 0, .int .i64 (if e = 0 then e2 else e)])) := by
  have T0 : Hid (Two (u.val.alloc (.cells #[.int .i64 n, .slice a l.length cap] 60)) u.val.heap.size 60 (.int .i64 n) (.slice a l.length cap)) := Lib.hid (Two.new _ _ _ _)
  have hI : IntsAt (u.val.alloc (.cells #[.int .i64 n, .slice a l.length cap] 60)).heap.size (u.val.alloc (.cells #[.int .i64 n, .slice a l.length cap] 60)) a l := h.to (u.alloc _)
  have hIb : IntsAt (u.val.alloc (.cells #[.int .i64 n, .slice a l.length cap] 60)).heap.size (u.val.alloc (.cells #[.int .i64 n, .slice a l.length cap] 60)) b ls := hb.to (u.alloc _)
  have HV : Hid (∀ v : Later (u.val.alloc (.cells #[.int .i64 n, .slice a l.length cap] 60)).heap.size (u.val.alloc (.cells #[.int .i64 n, .slice a l.length cap] 60)), ∃ w : Later B W, w.val = v.val) := Lib.hid (fun v => ⟨(u.alloc _).up v, rfl⟩)
  have q0 : ∀ w : Later (u.val.alloc (.cells #[.int .i64 n, .slice a l.length cap] 60)).heap.size (u.val.alloc (.cells #[.int .i64 n, .slice a l.length cap] 60)), w.val.cell? ⟨u.val.heap.size, 0, none⟩ = some (.int .i64 n) := fun w => (T0.out.keep w.below).c0
  have p0 : (u.val.alloc (.cells #[.int .i64 n, .slice a l.length cap] 60)).cell? ⟨u.val.heap.size, 0, none⟩ = some (.int .i64 n) := T0.out.c0
  have p1 : (u.val.alloc (.cells #[.int .i64 n, .slice a l.length cap] 60)).cell? ⟨u.val.heap.size, 1, none⟩ = some (.slice a l.length cap) := T0.out.c1
  have KC : Hid (Calls Try.prog 136 #[.agg #[.int .i64 n, .slice a l.length cap]] (u.val.alloc (.cells #[.int .i64 n, .slice a l.length cap] 60)) (Ret (u.val.alloc (.cells #[.int .i64 n, .slice a l.length cap] 60)).heap.size (u.val.alloc (.cells #[.int .i64 n, .slice a l.length cap] 60)) (.int .i64 e))) := Lib.hid (c_axCheck (Later.self _) n l a cap e hI hlen he)
  have KH := Lib.hid (fun v : Later (u.val.alloc (.cells #[.int .i64 n, .slice a l.length cap] 60)).heap.size (u.val.alloc (.cells #[.int .i64 n, .slice a l.length cap] 60)) => c_hallCheck v n ls b capb e2 hIb hlb hLs)
  clear h hb hI hIb he hLs T0
  rcases ieq e 0 with ⟨g, d1, d2⟩ | ⟨g, d1, d2⟩
  · subst g
    rw [if_pos rfl] at hno ⊢
    have d3 : (e2 != 0) = true := by rw [bne_iff_ne]; exact hno
    clear hno
    go_enter Try.func84, Try.ntmps84
    go_wp2_with (first | (go_at_call 136; ((with_reducible refine (KC.out).mono ?_); rintro e _ ⟨rfl, v1, rfl⟩)) | (go_at_call 137; ((with_reducible refine (KH.out _).mono ?_); rintro e _ ⟨rfl, v1, rfl⟩)))
    go_ret2
    exact Ret.of (HV.out v1) rfl
  · rw [if_neg g]
    clear hno g
    go_enter Try.func84, Try.ntmps84
    go_wp2_with (first | (go_at_call 136; ((with_reducible refine (KC.out).mono ?_); rintro e _ ⟨rfl, v1, rfl⟩)))
    go_ret2
    exact Ret.of (HV.out v1) rfl

end Go.Proofs.Ytcljgnmlpfddiaa
