
/-
  Sets as texts, plainly.
-/
import Derived.Test.YtpfhgklajaigfaaDoorSets
namespace Go.Proofs.YtpfhgklajaigfaaDoor
set_option linter.unusedVariables false

/-- what is written behind the first i elements -/
def wrT (s : Nat) : Nat → List Nat
  | 0 => []
  | i + 1 => if s.testBit i = true then (if (wrT s i).length = 0 then wrT s i else wrT s i ++ [32]) ++ [48 + i] else wrT s i
/-- the text of the first k elements of a list -/
def txT (l : List Nat) : Nat → List Nat
  | 0 => []
  | k + 1 => (if 0 < k then txT l k ++ [32] else txT l k) ++ [48 + l.getD k 0]
theorem wr_tx_all : ∀ s : Fin 256, wrT s.val 8 = txT (elems s.val) (elems s.val).length := by decide +kernel
theorem wr_tx {s : Nat} (hs : s < 256) : wrT s 8 = txT (elems s) (elems s).length := wr_tx_all ⟨s, hs⟩
theorem wrT_len (s : Nat) : ∀ i, (wrT s i).length ≤ 2 * i
  | 0 => Nat.le_refl _
  | i + 1 => by
    have ih := wrT_len s i
    rw [wrT]
    split
    · split <;> simp <;> omega
    · omega
theorem txT_len (l : List Nat) : ∀ k, (txT l k).length ≤ 2 * k
  | 0 => Nat.le_refl _
  | k + 1 => by
    have ih := txT_len l k
    rw [txT]
    split <;> simp <;> omega
/-- what is read: the set, the error, its place -/
def rdT : List Nat → Nat → Int → Nat → Nat × Int × Nat
  | [], k, _, s => if 0 < k ∧ k % 2 = 0 then (0, 4, k) else (s, 0, 0)
  | c :: t, k, last, s =>
    if k % 2 = 1 then (if c = 32 ∧ last ≠ 7 then rdT t (k + 1) last s else (0, 4, k))
    else if last < (c : Int) - 48 ∧ (c : Int) - 48 < 8 then rdT t (k + 1) ((c : Int) - 48) (s ||| bit (c - 48)) else (0, 4, k)
theorem rdT_end {k : Nat} {last : Int} {s : Nat} : rdT [] k last s = if 0 < k ∧ k % 2 = 0 then (0, 4, k) else (s, 0, 0) := rfl
theorem rdT_odd {l : List Nat} {k : Nat} {last : Int} {s : Nat} (hk : k < l.length) (h : k % 2 = 1) : rdT (l.drop k) k last s = if l.getD k 0 = 32 ∧ last ≠ 7 then rdT (l.drop (k + 1)) (k + 1) last s else (0, 4, k) := by
  rw [List.drop_eq_getElem_cons hk, rdT, if_pos h]
  have : l.getD k 0 = l[k] := by simp [hk]
  rw [this]
theorem rdT_even {l : List Nat} {k : Nat} {last : Int} {s : Nat} (hk : k < l.length) (h : ¬ k % 2 = 1) : rdT (l.drop k) k last s = if last < (l.getD k 0 : Int) - 48 ∧ (l.getD k 0 : Int) - 48 < 8 then rdT (l.drop (k + 1)) (k + 1) ((l.getD k 0 : Int) - 48) (s ||| bit (l.getD k 0 - 48)) else (0, 4, k) := by
  rw [List.drop_eq_getElem_cons hk, rdT, if_neg h]
  have : l.getD k 0 = l[k] := by simp [hk]
  rw [this]
/-- the bytes of a text -/
def byL (s : ByteArray) : List Nat := s.data.toList.map UInt8.toNat
theorem byL_len (s : ByteArray) : (byL s).length = s.size := by unfold byL; rw [List.length_map]; rfl
theorem byL_at {s : ByteArray} {k : Nat} (h : k < s.size) : (s[k]'h).toNat = (byL s).getD k 0 := by
  have hl : k < s.data.toList.length := h
  unfold byL
  simp only [List.getD, List.getElem?_map, List.getElem?_eq_getElem hl, Option.map_some, Option.getD_some]
  rfl
theorem byL_lt (s : ByteArray) (k : Nat) : (byL s).getD k 0 < 256 := by
  unfold byL
  simp only [List.getD, List.getElem?_map]
  cases s.data.toList[k]? with
  | none => simp
  | some x => simpa using x.toNat_lt

end Go.Proofs.YtpfhgklajaigfaaDoor
