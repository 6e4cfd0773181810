/-
  rotaref.Wins.
-/
import Derived.Test.YtcljgnmlpfddiaaGameFrom
namespace Go.Proofs.Ytcljgnmlpfddiaa
open Go.RowKit Go.Maps
set_option linter.unusedVariables false

/-- the world that rotaref.Wins has made ahead of its function value -/
def made6 (w : World) (n s t m : Nat) (a : Option Addr) (cap len : Nat) : World :=
  (((((w.alloc (.cells #[.int .i64 n, .slice a len cap] 27)).alloc (.cells #[.int .i64 s] 3)).alloc (.cells #[.int .i64 t] 3)).alloc (.cells #[.int .i64 m] 3)).alloc (.map #[] 0)).alloc (.cells #[.map (some (w.heap.size + 1 + 1 + 1 + 1))] 114)
theorem made6_size (w : World) (n s t m : Nat) (a : Option Addr) (cap len : Nat) : (made6 w n s t m a cap len).heap.size = w.heap.size + 6 := by simp [made6]
theorem made6_below (w : World) (n s t m : Nat) (a : Option Addr) (cap len : Nat) : Below w.heap.size w (made6 w n s t m a cap len) := by
  unfold made6
  refine Below.alloc (Below.alloc (Below.alloc (Below.alloc (Below.alloc (Below.alloc (Below.refl _ _) ?_ _) ?_ _) ?_ _) ?_ _) ?_ _) ?_ _ <;> simp <;> omega
/-- block k of the six -/
theorem row_under {w : World} {g : Nat} {t : TypeId} {vs : Array Value} (h : RowAt w g t vs) (o : Obj) : RowAt (w.alloc o) g t vs := h.keep ((Below.refl _ _).alloc (Nat.le_refl _) _)
theorem made6_rows (w : World) (n s t m : Nat) (a : Option Addr) (cap len : Nat) :
    RowAt (made6 w n s t m a cap len) w.heap.size 27 #[.int .i64 n, .slice a len cap] ∧ RowAt (made6 w n s t m a cap len) (w.heap.size + 1) 3 #[.int .i64 s] ∧ RowAt (made6 w n s t m a cap len) (w.heap.size + 2) 3 #[.int .i64 t] ∧
    RowAt (made6 w n s t m a cap len) (w.heap.size + 3) 3 #[.int .i64 m] ∧ RowAt (made6 w n s t m a cap len) (w.heap.size + 5) 114 #[.map (some (w.heap.size + 4))] := by
  unfold made6
  refine ⟨?_, ?_, ?_, ?_, ?_⟩
  · exact row_under (row_under (row_under (row_under (row_under (RowAt.new _ _ _) _) _) _) _) _
  · have := row_under (row_under (row_under (row_under (RowAt.new (w.alloc (.cells #[.int .i64 n, .slice a len cap] 27)) 3 #[.int .i64 s]) (.cells #[.int .i64 t] 3)) (.cells #[.int .i64 m] 3)) (.map #[] 0)) (.cells #[.map (some (w.heap.size + 1 + 1 + 1 + 1))] 114)
    simpa using this
  · have := row_under (row_under (row_under (RowAt.new ((w.alloc (.cells #[.int .i64 n, .slice a len cap] 27)).alloc (.cells #[.int .i64 s] 3)) 3 #[.int .i64 t]) (.cells #[.int .i64 m] 3)) (.map #[] 0)) (.cells #[.map (some (w.heap.size + 1 + 1 + 1 + 1))] 114)
    simpa using this
  · have := row_under (row_under (RowAt.new (((w.alloc (.cells #[.int .i64 n, .slice a len cap] 27)).alloc (.cells #[.int .i64 s] 3)).alloc (.cells #[.int .i64 t] 3)) 3 #[.int .i64 m]) (.map #[] 0)) (.cells #[.map (some (w.heap.size + 1 + 1 + 1 + 1))] 114)
    simpa using this
  · have := RowAt.new (((((w.alloc (.cells #[.int .i64 n, .slice a len cap] 27)).alloc (.cells #[.int .i64 s] 3)).alloc (.cells #[.int .i64 t] 3)).alloc (.cells #[.int .i64 m] 3)).alloc (.map #[] 0)) 114 #[.map (some (w.heap.size + 1 + 1 + 1 + 1))]
    simpa using this
theorem made6_memo (H : Nat → Bool) (w : World) (n s t m : Nat) (a : Option Addr) (cap len : Nat) : Memo H m (made6 w n s t m a cap len) (w.heap.size + 4) 0 := by
  have := (Memo.new H m ((((w.alloc (.cells #[.int .i64 n, .slice a len cap] 27)).alloc (.cells #[.int .i64 s] 3)).alloc (.cells #[.int .i64 t] 3)).alloc (.cells #[.int .i64 m] 3))).keep ((Below.refl _ _).alloc (Nat.le_refl _) (.cells #[.map (some (w.heap.size + 1 + 1 + 1 + 1))] 114))
  unfold made6
  simpa using this

set_option maxRecDepth 100000 in
set_option maxHeartbeats 4000000 in
theorem c_refWins {B : Nat} {W : World} (u : Later B W) (n s t j c : Nat) (first : Bool) (es : List (Int × Int)) (a : Option Addr) (cap : Nat) (h : EdgesAt B W a es) (hG : isGraph (n : Int) es) (hs : s < 8) (ht : t < 8) (hj : j < bit es.length) (hc : c < bit es.length) :
    Calls Try.prog 19 #[.agg #[.int .i64 n, .slice a es.length cap], .int .i64 s, .int .i64 t, .int .i64 j, .int .i64 c, .bool first] u.val (Ret B W (.bool (win (led n es s t) es.length j c first))) := by
  have he8 : es.length ≤ 8 := hG.2.2.1
  have hbm := bit_le es.length he8
  have hmm := @run_makeMap Try.prog
  have hp1 : ∀ (args : Array Value) (w : World), (callFunc 91 args).run Try.prog w = .ok (.enter 91 args) w := fun _ _ => by kernel_rfl
  have huB := u.size
  go_enter Try.func19, Try.ntmps19
  go_upto_region 3 with fail
  clear hmm
  have hsz := made6_size u.val n s t es.length a cap es.length
  have RW := Lib.hid (made6_rows u.val n s t es.length a cap es.length)
  have MW := Lib.hid (made6_memo (led n es s t) u.val n s t es.length a cap es.length)
  have BW := Lib.hid (made6_below u.val n s t es.length a cap es.length)
  rw [show (((((u.val.alloc (.cells #[.int .i64 n, .slice a es.length cap] 27)).alloc (.cells #[.int .i64 s] 3)).alloc (.cells #[.int .i64 t] 3)).alloc (.cells #[.int .i64 es.length] 3)).alloc (.map #[] 0)).alloc (.cells #[.map (some (u.val.heap.size + 1 + 1 + 1 + 1))] 114) = made6 u.val n s t es.length a cap es.length from rfl]
  have hE0 : Hid (EdgesAt u.val.heap.size u.val a es) := Lib.hid (h.to u)
  have HU : Hid (∀ w : World, Below u.val.heap.size u.val w → ∃ u' : Later B W, u'.val = w) := Lib.hid (fun w hb => ⟨u.to w (hb.mono huB), rfl⟩)
  clear h
  generalize made6 u.val n s t es.length a cap es.length = w6 at *
  generalize u.val = V at *
  clear u
  have HSZ := Lib.hid hsz
  have hsz2 : w6.heap.size = V.heap.size + 6 := hsz
  clear hsz
  generalize hN : V.heap.size = N at *
  clear hN
  have HS2 := Lib.hid hsz2
  have hlt6 : N < w6.heap.size := by omega
  clear hsz2
  have BX : Hid (Boxes (w6.alloc (.cells #[.func (.func 91) #[] #[.pointer (some ⟨N, 0, none⟩), .pointer (some ⟨N + 1, 0, none⟩), .pointer (some ⟨N + 1 + 1, 0, none⟩), .pointer (some ⟨N + 1 + 1 + 1 + 1 + 1, 0, none⟩), .pointer (some ⟨N + 1 + 1 + 1, 0, none⟩), .pointer (some ⟨w6.heap.size, 0, none⟩)]] 119)) (N + 1 + 1 + 1 + 1) n s t es.length a cap es.length N (N + 1) (N + 1 + 1) (N + 1 + 1 + 1 + 1 + 1) (N + 1 + 1 + 1) w6.heap.size) := Lib.hid (by
    obtain ⟨r0, r1, r2, r3, r5⟩ := RW.out
    have hs6 := HS2.out
    refine ⟨(row_under r0 _).cell 0, (row_under r0 _).cell 1, (row_under r1 _).cell 0, (row_under r2 _).cell 0, (row_under r5 _).cell 0, (row_under r3 _).cell 0, (RowAt.new w6 _ _).cell 0, ?_, ?_⟩
    · simp; omega
    · omega)
  have MX : Hid (Memo (led n es s t) es.length (w6.alloc (.cells #[.func (.func 91) #[] #[.pointer (some ⟨N, 0, none⟩), .pointer (some ⟨N + 1, 0, none⟩), .pointer (some ⟨N + 1 + 1, 0, none⟩), .pointer (some ⟨N + 1 + 1 + 1 + 1 + 1, 0, none⟩), .pointer (some ⟨N + 1 + 1 + 1, 0, none⟩), .pointer (some ⟨w6.heap.size, 0, none⟩)]] 119)) (N + 1 + 1 + 1 + 1) 0) := Lib.hid (MW.out.keep ((Below.refl _ _).alloc (Nat.le_refl _) _))
  have BX8 : Hid (Below N V (w6.alloc (.cells #[.func (.func 91) #[] #[.pointer (some ⟨N, 0, none⟩), .pointer (some ⟨N + 1, 0, none⟩), .pointer (some ⟨N + 1 + 1, 0, none⟩), .pointer (some ⟨N + 1 + 1 + 1 + 1 + 1, 0, none⟩), .pointer (some ⟨N + 1 + 1 + 1, 0, none⟩), .pointer (some ⟨w6.heap.size, 0, none⟩)]] 119))) := Lib.hid (BW.out.alloc (by omega) _)
  have E8 : Hid (EdgesAt N (w6.alloc (.cells #[.func (.func 91) #[] #[.pointer (some ⟨N, 0, none⟩), .pointer (some ⟨N + 1, 0, none⟩), .pointer (some ⟨N + 1 + 1, 0, none⟩), .pointer (some ⟨N + 1 + 1 + 1 + 1 + 1, 0, none⟩), .pointer (some ⟨N + 1 + 1 + 1, 0, none⟩), .pointer (some ⟨w6.heap.size, 0, none⟩)]] 119)) a es) := Lib.hid (hE0.out.later BX8.out)
  have hkc : cost (sz (left es.length j c)) ≤ 1000000 := Nat.le_trans (cost_le _ (sz_le _)) (by decide)
  have K : Hid (∀ q : Nat, (q = 1 ∨ q = 2) → Calls Try.prog 91 (#[.int .i64 j, .int .i64 c, .int .i64 q] ++ #[.pointer (some ⟨N, 0, none⟩), .pointer (some ⟨N + 1, 0, none⟩), .pointer (some ⟨N + 1 + 1, 0, none⟩), .pointer (some ⟨N + 1 + 1 + 1 + 1 + 1, 0, none⟩), .pointer (some ⟨N + 1 + 1 + 1, 0, none⟩), .pointer (some ⟨w6.heap.size, 0, none⟩)]) (w6.alloc (.cells #[.func (.func 91) #[] #[.pointer (some ⟨N, 0, none⟩), .pointer (some ⟨N + 1, 0, none⟩), .pointer (some ⟨N + 1 + 1, 0, none⟩), .pointer (some ⟨N + 1 + 1 + 1 + 1 + 1, 0, none⟩), .pointer (some ⟨N + 1 + 1 + 1, 0, none⟩), .pointer (some ⟨w6.heap.size, 0, none⟩)]] 119)) (WinsPost (led n es s t) es.length (w6.alloc (.cells #[.func (.func 91) #[] #[.pointer (some ⟨N, 0, none⟩), .pointer (some ⟨N + 1, 0, none⟩), .pointer (some ⟨N + 1 + 1, 0, none⟩), .pointer (some ⟨N + 1 + 1 + 1 + 1 + 1, 0, none⟩), .pointer (some ⟨N + 1 + 1 + 1, 0, none⟩), .pointer (some ⟨w6.heap.size, 0, none⟩)]] 119)) (N + 1 + 1 + 1 + 1) (0 + cost (sz (left es.length j c))) (.int .i64 (winN (led n es s t) es.length j c (decide (q = 1)))))) := Lib.hid (fun q hq => c_from n s t es a cap hG hs ht (N + 1 + 1 + 1 + 1) N N (N + 1) (N + 1 + 1) (N + 1 + 1 + 1 + 1 + 1) (N + 1 + 1 + 1) w6.heap.size (by omega) _ _ 0 j c q E8.out BX.out MX.out rfl (by rw [Nat.zero_add]; exact hkc) hj hc hq)
  have HL : Hid (∀ w' : World, (w6.alloc (.cells #[.func (.func 91) #[] #[.pointer (some ⟨N, 0, none⟩), .pointer (some ⟨N + 1, 0, none⟩), .pointer (some ⟨N + 1 + 1, 0, none⟩), .pointer (some ⟨N + 1 + 1 + 1 + 1 + 1, 0, none⟩), .pointer (some ⟨N + 1 + 1 + 1, 0, none⟩), .pointer (some ⟨w6.heap.size, 0, none⟩)]] 119)).grownBy w' (some (N + 1 + 1 + 1 + 1)) → ∃ u' : Later B W, u'.val = w') := Lib.hid (fun w' h => HU.out w' (BX8.out.grown h (by simp; omega) (fun k hk => by simp at hk; omega)))
  have hw : ∀ q : Nat, Hid (winN (led n es s t) es.length j c (decide (q = 1)) = if win (led n es s t) es.length j c (decide (q = 1)) = true then 1 else 2) := fun q => Lib.hid rfl
  have K1 : Hid (Calls Try.prog 91 (#[.int .i64 j, .int .i64 c, .int .i64 1] ++ #[.pointer (some ⟨N, 0, none⟩), .pointer (some ⟨N + 1, 0, none⟩), .pointer (some ⟨N + 1 + 1, 0, none⟩), .pointer (some ⟨N + 1 + 1 + 1 + 1 + 1, 0, none⟩), .pointer (some ⟨N + 1 + 1 + 1, 0, none⟩), .pointer (some ⟨w6.heap.size, 0, none⟩)]) (w6.alloc (.cells #[.func (.func 91) #[] #[.pointer (some ⟨N, 0, none⟩), .pointer (some ⟨N + 1, 0, none⟩), .pointer (some ⟨N + 1 + 1, 0, none⟩), .pointer (some ⟨N + 1 + 1 + 1 + 1 + 1, 0, none⟩), .pointer (some ⟨N + 1 + 1 + 1, 0, none⟩), .pointer (some ⟨w6.heap.size, 0, none⟩)]] 119)) (WinsPost (led n es s t) es.length (w6.alloc (.cells #[.func (.func 91) #[] #[.pointer (some ⟨N, 0, none⟩), .pointer (some ⟨N + 1, 0, none⟩), .pointer (some ⟨N + 1 + 1, 0, none⟩), .pointer (some ⟨N + 1 + 1 + 1 + 1 + 1, 0, none⟩), .pointer (some ⟨N + 1 + 1 + 1, 0, none⟩), .pointer (some ⟨w6.heap.size, 0, none⟩)]] 119)) (N + 1 + 1 + 1 + 1) (0 + cost (sz (left es.length j c))) (.int .i64 (if win (led n es s t) es.length j c true = true then 1 else 2)))) := Lib.hid (K.out 1 (.inl rfl))
  have K2 : Hid (Calls Try.prog 91 (#[.int .i64 j, .int .i64 c, .int .i64 2] ++ #[.pointer (some ⟨N, 0, none⟩), .pointer (some ⟨N + 1, 0, none⟩), .pointer (some ⟨N + 1 + 1, 0, none⟩), .pointer (some ⟨N + 1 + 1 + 1 + 1 + 1, 0, none⟩), .pointer (some ⟨N + 1 + 1 + 1, 0, none⟩), .pointer (some ⟨w6.heap.size, 0, none⟩)]) (w6.alloc (.cells #[.func (.func 91) #[] #[.pointer (some ⟨N, 0, none⟩), .pointer (some ⟨N + 1, 0, none⟩), .pointer (some ⟨N + 1 + 1, 0, none⟩), .pointer (some ⟨N + 1 + 1 + 1 + 1 + 1, 0, none⟩), .pointer (some ⟨N + 1 + 1 + 1, 0, none⟩), .pointer (some ⟨w6.heap.size, 0, none⟩)]] 119)) (WinsPost (led n es s t) es.length (w6.alloc (.cells #[.func (.func 91) #[] #[.pointer (some ⟨N, 0, none⟩), .pointer (some ⟨N + 1, 0, none⟩), .pointer (some ⟨N + 1 + 1, 0, none⟩), .pointer (some ⟨N + 1 + 1 + 1 + 1 + 1, 0, none⟩), .pointer (some ⟨N + 1 + 1 + 1, 0, none⟩), .pointer (some ⟨w6.heap.size, 0, none⟩)]] 119)) (N + 1 + 1 + 1 + 1) (0 + cost (sz (left es.length j c))) (.int .i64 (if win (led n es s t) es.length j c false = true then 1 else 2)))) := Lib.hid (K.out 2 (.inr rfl))
  clear hw K hkc E8 BX8 MX BX HU BW MW RW hE0 HS2 HSZ hlt6
  have hsf := fun (a : Addr) (c : Array Value) (w : World) => run_store Try.prog w a (.func (.func 91) #[] c) .plain rfl
  cases first
  · rcases btf (win (led n es s t) es.length j c false) with g | g
    all_goals
      rw [g] at K2
      have G := Lib.hid g
      clear g K1
      first | rw [if_pos rfl] at K2 | rw [if_neg (by decide)] at K2
      go_wp2_with ((refine (K2.out).mono ?_; rintro e w2 ⟨rfl, hgr, hme⟩; have HGR := Lib.hid hgr; clear hgr hme))
      go_ret
      exact Ret.of (HL.out _ HGR.out) (by first | rfl | (simp [G.out]; done))
  · rcases btf (win (led n es s t) es.length j c true) with g | g
    all_goals
      rw [g] at K1
      have G := Lib.hid g
      clear g K2
      first | rw [if_pos rfl] at K1 | rw [if_neg (by decide)] at K1
      go_wp2_with ((refine (K1.out).mono ?_; rintro e w2 ⟨rfl, hgr, hme⟩; have HGR := Lib.hid hgr; clear hgr hme))
      go_ret
      exact Ret.of (HL.out _ HGR.out) (by first | rfl | (simp [G.out]; done))

end Go.Proofs.Ytcljgnmlpfddiaa
