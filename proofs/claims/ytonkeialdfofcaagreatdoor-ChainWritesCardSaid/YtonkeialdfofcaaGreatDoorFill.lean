/-
  A slice of bytes of the call's own that is filled byte by byte: what it reads as.
-/
import Derived.Test.YtonkeialdfofcaaGreatDoorOct
import Derived.Test.YtonkeialdfofcaaGreatDoorDk5
namespace Go.Proofs.YtonkeialdfofcaaGreatDoor
open Go.RowKit Go

/-- The first k bytes that f says. -/
def fillL (f : Nat → UInt8) (k : Nat) : List UInt8 := (List.range k).map f
theorem length_fillL (f : Nat → UInt8) (k : Nat) : (fillL f k).length = k := by simp [fillL]
theorem fillL_succ (f : Nat → UInt8) (k : Nat) : fillL f (k + 1) = fillL f k ++ [f k] := by simp [fillL, List.range_succ]
/-- The cells behind k rounds. -/
def fillC (f : Nat → UInt8) (n k : Nat) : Array Value := (u8s (fillL f k ++ zeros (n - k))).toArray
theorem size_fillC (f : Nat → UInt8) (n k : Nat) (h : k ≤ n) : (fillC f n k).size = n := by
  simp [fillC, length_u8s, length_fillL, zeros]; omega
theorem fillC_zero (f : Nat → UInt8) (n : Nat) : fillC f n 0 = zN n := by simp [fillC, fillL, zN]
theorem fillC_at (f : Nat → UInt8) (n k : Nat) (h : k < n) : (fillC f n k)[k]? = some (.int .u8 0) := by
  obtain ⟨m, hm⟩ : ∃ m, n - k = m + 1 := ⟨n - k - 1, by omega⟩
  simp only [fillC, hm, List.getElem?_toArray, u8s_get]
  rw [List.getElem?_append_right (by rw [length_fillL]; omega), length_fillL, Nat.sub_self]
  rfl
theorem fillC_step (f : Nat → UInt8) (n k : Nat) (h : k < n) (v : Value) (hv : v = bv (f k)) : (fillC f n k).setIfInBounds k v = fillC f n (k + 1) := by
  subst hv
  obtain ⟨m, hm⟩ : ∃ m, n - k = m + 1 := ⟨n - k - 1, by omega⟩
  have hm' : n - (k + 1) = m := by omega
  have e : zeros (m + 1) = 0 :: zeros m := rfl
  apply Array.ext'
  simp only [fillC, hm, hm', fillL_succ, List.setIfInBounds_toArray, e]
  rw [u8s, List.map_append, List.map_cons, List.set_append_right _ _ (by simp [length_fillL]), List.length_map, length_fillL, Nat.sub_self, List.set_cons_zero]
  simp [u8s]
theorem fillC_full (f : Nat → UInt8) (n : Nat) : fillC f n n = (u8s (fillL f n)).toArray := by simp [fillC, zeros]
theorem fill_bytes {w : World} {b : Nat} {f : Nat → UInt8} {n : Nat} (h : w.heap[b]? = some (.cells (fillC f n n) 5 (0, 0))) : BytesAt w (.slice (some ⟨b, 0, none⟩) n n) (fillL f n) := by
  refine .inr ⟨b, 0, n, _, (0, 0), by rw [length_fillL], by rw [length_fillL]; exact Nat.le_refl _, h, by rw [size_fillC _ _ _ (Nat.le_refl _)]; omega, fun i _ => ?_⟩
  rw [fillC_full]
  simp
theorem fill_block {w : World} {b : Nat} {f : Nat → UInt8} {n k : Nat} (h : w.heap[b]? = some (.cells (fillC f n k) 5 (0, 0))) (hk : k < n) (v : Value) (hv : v = bv (f k)) :
    (w.setCell ⟨b, k, none⟩ v).heap[b]? = some (.cells (fillC f n (k + 1)) 5 (0, 0)) := by
  rw [blk_setCell h, fillC_step f n k hk v hv]
end Go.Proofs.YtonkeialdfofcaaGreatDoor
