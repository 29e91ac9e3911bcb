/-
  A chain as a fact on homes; what Put and Drop make of chains and bits: plain laws.
-/
import Derived.Test.YtonkeialdfofcaaGreatDoorChain2
namespace Go.Proofs.YtonkeialdfofcaaGreatDoor
open Go.RowKit Go

/-- Homes L hold the bytes b as a chain. -/
structure ChainAt (n : Nat) (H : Nat → Bs) (L : List Nat) (b : Bs) : Prop where
  len : L.length = longN b.length
  h40 : L.length ≤ 40
  lt : ∀ i ∈ L, 2 ≤ i ∧ i < n
  nd : L.Nodup
  at_ : ∀ k, k < L.length → H (L.getD k 0) = linkB (L.getD (k + 1) 0) (partB b k)

theorem getD_mem {L : List Nat} {k : Nat} (h : k < L.length) : L.getD k 0 ∈ L := by
  simp only [List.getD, List.getElem?_eq_getElem h, Option.getD_some]; exact List.getElem_mem h
theorem ChainAt.congr {n : Nat} {H H' : Nat → Bs} {L : List Nat} {b : Bs} (h : ChainAt n H L b) (e : ∀ i ∈ L, H' i = H i) : ChainAt n H' L b :=
  ⟨h.len, h.h40, h.lt, h.nd, fun k hk => by rw [e _ (getD_mem hk)]; exact h.at_ k hk⟩
theorem ChainAt.get {n : Nat} {H : Nat → Bs} {L : List Nat} {b : Bs} {i : Nat} (h : ChainAt n H L b) (hn : n < 4294967296) (hi : L[0]? = some i) : getC n H i = (0, L, b) :=
  getC_laid n H L b i hi h.len h.h40 hn h.lt h.at_
theorem ChainAt.one {n : Nat} {H : Nat → Bs} {L : List Nat} {b : Bs} (h : ChainAt n H L b) : 1 ∉ L := fun c => by have := (h.lt 1 c).1; omega

/-- What Put lays. -/
theorem put_chain {n : Nat} {H : Nat → Bs} {L : List Nat} {b B' : Bs} (hH : (H 1).length = 248) (hb : b.length ≤ 9680) (h : tkB n (longN b.length) (H 1) = some (L, B')) :
    ChainAt n (laid L b (fun j => if j = 1 then B' else H j) (longN b.length)) L b ∧
    laid L b (fun j => if j = 1 then B' else H j) (longN b.length) 1 = B' ∧
    (∀ j, j ∉ L → j ≠ 1 → laid L b (fun j => if j = 1 then B' else H j) (longN b.length) j = H j) ∧
    (∀ i ∈ L, hasB (H 1) i = false) ∧ B'.length = 248 ∧ (∀ j, hasB B' j = (hasB (H 1) j || decide (j ∈ L))) ∧ leftB B' n + L.length = leftB (H 1) n := by
  obtain ⟨g1, g2, g3, g4⟩ := tkB_free hH h
  have hl := tkB_len h
  have hlt := tkB_lt h
  have h1 : 1 ∉ L := fun c => by have := (hlt 1 c).1; omega
  refine ⟨⟨hl, ?_, hlt, g1, fun k hk => laid_at L b _ g1 _ (by omega) k (by omega)⟩, ?_, fun j hj hj1 => ?_, g2, g3, g4, ?_⟩
  · rw [hl]; unfold longN; omega
  · rw [laid_off L b _ 1 _ (by omega) h1]; simp
  · rw [laid_off L b _ j _ (by omega) hj]; simp [hj1]
  · rw [hl]; exact tkB_left hH h

theorem dropB_all {n : Nat} : ∀ {L : List Nat} {b : Bs}, b.length = 248 → L.Nodup → (∀ i ∈ L, 2 ≤ i ∧ i < n ∧ i < 1984 ∧ hasB b i = true) →
    (dropB n L b).1 = 0 ∧ (dropB n L b).2.length = 248 ∧ (∀ j, hasB (dropB n L b).2 j = (hasB b j && !decide (j ∈ L))) ∧ leftB (dropB n L b).2 n = leftB b n + L.length
  | [], b, hl, _, _ => by simp [dropB, hl]
  | i :: L, b, hl, hnd, hall => by
    obtain ⟨a1, a2, a3, a4⟩ := hall i (by simp)
    obtain ⟨n1, n2⟩ := List.nodup_cons.1 hnd
    have ht := fun j => has_turn b i j hl a1 a3
    have e : dropB n (i :: L) b = dropB n L (turnB b i) := by rw [dropB, if_pos ⟨a1, a2, a4⟩]
    rw [e]
    obtain ⟨c1, c2, c3, c4⟩ := dropB_all (n := n) (L := L) (b := turnB b i) (by rw [length_turnB, hl]) n2 (fun j hj => by
      obtain ⟨b1, b2, b3, b4⟩ := hall j (by simp [hj])
      refine ⟨b1, b2, b3, ?_⟩
      rw [ht j, if_neg (fun c : j = i => n1 (c ▸ hj))]
      exact b4)
    refine ⟨c1, c2, fun j => ?_, ?_⟩
    · rw [c3 j, ht j]
      by_cases ej : j = i
      · subst ej; simp [a4, n1]
      · simp [ej]
    · have := leftB_free hl a1 a3 a4 n
      rw [if_pos a2] at this
      rw [c4, this, List.length_cons]
      omega
theorem dropB_not {n i : Nat} {L : List Nat} {b : Bs} (hi : L[0]? = some i) (hb : hasB b i = false) : dropB n L b = (1, b) := by
  cases L with
  | nil => simp at hi
  | cons j L =>
    obtain rfl : j = i := by simpa using hi
    rw [dropB, if_neg (by rw [hb]; simp)]
end Go.Proofs.YtonkeialdfofcaaGreatDoor
