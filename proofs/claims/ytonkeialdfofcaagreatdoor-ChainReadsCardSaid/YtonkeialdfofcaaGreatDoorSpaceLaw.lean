/-
  How many homes are free behind takes and frees: plain laws on bits.
-/
import Derived.Test.YtonkeialdfofcaaGreatDoorSpace4
import Derived.Test.YtonkeialdfofcaaGreatDoorChainLaw
namespace Go.Proofs.YtonkeialdfofcaaGreatDoor
open Go.RowKit Go

theorem leftB_take {b : Bs} {i : Nat} (hl : b.length = 248) (h2 : 2 ≤ i) (h3 : i < 1984) (hf : hasB b i = false) : ∀ n, leftB (turnB b i) n + (if i < n then 1 else 0) = leftB b n
  | 0 => by simp [leftB]
  | n + 1 => by
    have ih := leftB_take hl h2 h3 hf n
    rw [leftB_succ, leftB_succ, has_turn b i n hl h2 h3]
    by_cases e : n = i
    · subst e
      rw [if_pos rfl, hf]
      simp at ih ⊢
      exact ih
    · rw [if_neg e]
      by_cases h : i < n
      · rw [if_pos h] at ih
        rw [if_pos (show i < n + 1 by omega)]
        omega
      · rw [if_neg h] at ih
        rw [if_neg (show ¬ i < n + 1 by omega)]
        omega
theorem leftB_free {b : Bs} {i : Nat} (hl : b.length = 248) (h2 : 2 ≤ i) (h3 : i < 1984) (hf : hasB b i = true) : ∀ n, leftB (turnB b i) n = leftB b n + (if i < n then 1 else 0)
  | 0 => by simp [leftB]
  | n + 1 => by
    have ih := leftB_free hl h2 h3 hf n
    rw [leftB_succ, leftB_succ, has_turn b i n hl h2 h3]
    by_cases e : n = i
    · subst e
      rw [if_pos rfl, hf]
      simp at ih ⊢
      omega
    · rw [if_neg e]
      by_cases h : i < n
      · rw [if_pos h] at ih
        rw [if_pos (show i < n + 1 by omega)]
        omega
      · rw [if_neg h] at ih
        rw [if_neg (show ¬ i < n + 1 by omega)]
        omega
theorem freeB_none {b : Bs} {n : Nat} (h : freeB b n = none) : leftB b n = 0 := by
  unfold freeB at h
  unfold leftB
  rw [List.countP_eq_zero]
  intro i hi
  simpa using List.find?_eq_none.1 h i hi
theorem freeB_pos {b : Bs} {n i : Nat} (h : freeB b n = some i) : 0 < leftB b n := by
  obtain ⟨f1, f2, _⟩ := freeB_some h
  unfold leftB
  rw [List.countP_pos_iff]
  exact ⟨i, List.mem_range.2 f1, by simp [f2]⟩

theorem tkB_left {n : Nat} : ∀ {k : Nat} {b b' : Bs} {l : List Nat}, b.length = 248 → tkB n k b = some (l, b') → leftB b' n + k = leftB b n
  | 0, b, b', l, _, h => by
    simp [tkB] at h
    rw [h.2]; rfl
  | k + 1, b, b', l, hl, h => by
    obtain ⟨i, l', rfl, h1, h2⟩ := tkB_succ h
    obtain ⟨f1, f2, _⟩ := freeB_some h1
    obtain ⟨i2, i3⟩ := hasB_lo f2
    have ih := tkB_left (by rw [length_turnB, hl]) h2
    have := leftB_take hl i2 i3 f2 n
    rw [if_pos f1] at this
    omega
/-- As many homes are taken as there are, and no more. -/
theorem tkB_total {n : Nat} : ∀ (k : Nat) (b : Bs), b.length = 248 → k ≤ leftB b n → ∃ l b', tkB n k b = some (l, b')
  | 0, b, _, _ => ⟨[], b, rfl⟩
  | k + 1, b, hl, hk => by
    cases hf : freeB b n with
    | none => have := freeB_none hf; omega
    | some i =>
      obtain ⟨f1, f2, _⟩ := freeB_some hf
      obtain ⟨i2, i3⟩ := hasB_lo f2
      have := leftB_take hl i2 i3 f2 n
      rw [if_pos f1] at this
      obtain ⟨l, b', h⟩ := tkB_total (n := n) k (turnB b i) (by rw [length_turnB, hl]) (by omega)
      exact ⟨i :: l, b', by simp [tkB, hf, h]⟩
theorem tkB_none {n k : Nat} {b : Bs} (hl : b.length = 248) (hk : leftB b n < k) : tkB n k b = none := by
  cases h : tkB n k b with
  | none => rfl
  | some p =>
    have := tkB_left hl (l := p.1) (b' := p.2) (by rw [h])
    omega
theorem tkB_none_succ {n k : Nat} {b : Bs} (h : tkB n (k + 1) b = none) : freeB b n = none ∨ ∃ i, freeB b n = some i ∧ tkB n k (turnB b i) = none := by
  unfold tkB at h
  split at h
  · rename_i e; exact .inl e
  · rename_i i e
    refine .inr ⟨i, e, ?_⟩
    split at h
    · assumption
    · simp at h

theorem zeros_get (m q : Nat) : ((3 : UInt8) :: zeros m).getD (q + 1) 0 = 0 := by
  unfold zeros
  simp only [List.getD, List.getElem?_cons_succ, List.getElem?_replicate]
  split <;> rfl
theorem bits_fresh (i : Nat) : hasB bitsB i = decide (i < 2 ∨ 1984 ≤ i) := by
  unfold hasB
  by_cases h : i < 2
  · simp [h]
  · by_cases h2 : 1984 ≤ i
    · simp [h2]
    · have e : ((bitsB.getD (i / 8) 0).toNat.testBit (i % 8)) = false := by
        by_cases h8 : i / 8 = 0
        · have hb : bitsB.getD (i / 8) 0 = 3 := by rw [h8]; rfl
          rw [hb]
          have : i % 8 = i := by omega
          rw [this]
          rcases (show i = 2 ∨ i = 3 ∨ i = 4 ∨ i = 5 ∨ i = 6 ∨ i = 7 by omega) with rfl | rfl | rfl | rfl | rfl | rfl <;> decide
        · have hb : bitsB.getD (i / 8) 0 = 0 := by
            obtain ⟨q, hq⟩ : ∃ q, i / 8 = q + 1 := ⟨i / 8 - 1, by omega⟩
            rw [hq]
            exact zeros_get 247 q
          rw [hb]
          simp
      rw [e]
      simp [h, h2]
theorem left_fresh (n : Nat) (hn : n ≤ 1984) : leftB bitsB n = n - 2 := by
  induction n with
  | zero => rfl
  | succ n ih =>
    rw [leftB_succ, ih (by omega), bits_fresh]
    by_cases h : n < 2
    · have : decide (n < 2 ∨ 1984 ≤ n) = true := by simp; omega
      rw [this]; simp; omega
    · have : decide (n < 2 ∨ 1984 ≤ n) = false := by simp; omega
      rw [this]; simp; omega
end Go.Proofs.YtonkeialdfofcaaGreatDoor
