/-
  A chain that is laid reads back: plain law.
-/
import Derived.Test.YtonkeialdfofcaaGreatDoorGet
namespace Go.Proofs.YtonkeialdfofcaaGreatDoor
open Go.RowKit Go

theorem length_partB (b : Bs) (k : Nat) : (partB b k).length = min 242 (b.length - k * 242) := by simp [partB]
theorem partB_take (b : Bs) (k : Nat) : b.take (k * 242) ++ partB b k = b.take ((k + 1) * 242) := by
  unfold partB
  rw [show (k + 1) * 242 = k * 242 + 242 by omega, List.take_add]

theorem link_nums (next : Nat) (s : Bs) (hn : next < 4294967296) (hs : s.length ≤ 242) : numAt (linkB next s) 0 4 = next ∧ numAt (linkB next s) 4 2 = s.length ∧ ((linkB next s).drop 6).take s.length = s := by
  refine ⟨?_, ?_, ?_⟩
  · exact numAt_put [] (putN 2 s.length ++ s ++ zeros (242 - s.length)) 4 next 0 (by simp only [linkB, List.append_assoc, List.nil_append]) rfl (by simpa using hn)
  · exact numAt_put (putN 4 next) (s ++ zeros (242 - s.length)) 2 s.length 4 (by simp only [linkB, List.append_assoc]) (length_putN _ _) (by omega)
  · have e : linkB next s = (putN 4 next ++ putN 2 s.length) ++ (s ++ zeros (242 - s.length)) := by simp only [linkB, List.append_assoc]
    rw [e, drop_app (by simp [length_putN])]
    exact take_app rfl
theorem length_linkB (next : Nat) (s : Bs) (hs : s.length ≤ 242) : (linkB next s).length = 248 := by
  simp [linkB, length_putN, length_zeros]; omega

theorem laid_at (L : List Nat) (b : Bs) (H : Nat → Bs) (hnd : L.Nodup) : ∀ (K : Nat), K ≤ L.length → ∀ k, k < K → laid L b H K (L.getD k 0) = linkB (L.getD (k + 1) 0) (partB b k)
  | 0, _, k, hk => by omega
  | K + 1, hK, k, hk => by
    unfold laid
    by_cases e : k = K
    · subst e; simp
    · have hkK : k < K := by omega
      have hne : L.getD k 0 ≠ L.getD K 0 := by
        have h1 : k < L.length := by omega
        have h2 : K < L.length := by omega
        simp only [List.getD, List.getElem?_eq_getElem h1, List.getElem?_eq_getElem h2, Option.getD_some]
        intro c
        exact e ((List.getElem_inj hnd).1 c)
      simp only [if_neg hne]
      exact laid_at L b H hnd K (by omega) k hkK
theorem laid_off (L : List Nat) (b : Bs) (H : Nat → Bs) (j : Nat) : ∀ (K : Nat), K ≤ L.length → j ∉ L → laid L b H K j = H j
  | 0, _, _ => rfl
  | K + 1, hK, hj => by
    unfold laid
    have h2 : K < L.length := by omega
    have hne : j ≠ L.getD K 0 := by
      simp only [List.getD, List.getElem?_eq_getElem h2, Option.getD_some]
      intro c
      exact hj (c ▸ List.getElem_mem h2)
    simp only [if_neg hne]
    exact laid_off L b H j K (by omega) hj

theorem getF_laid (n : Nat) (H' : Nat → Bs) (L : List Nat) (b : Bs) (hL : L.length = longN b.length) (h40 : L.length ≤ 40) (hn : n < 4294967296) (hlt : ∀ i ∈ L, 2 ≤ i ∧ i < n)
    (hat : ∀ k, k < L.length → H' (L.getD k 0) = linkB (L.getD (k + 1) 0) (partB b k)) :
    ∀ (q k : Nat), k + q = L.length → getF n H' (41 - k) (L.getD k 0) (L.take k) (b.take (k * 242)) = (0, L, b)
  | 0, k, hk => by
    have e : L.getD k 0 = 0 := by simp [List.getD, List.getElem?_eq_none (show L.length ≤ k by omega)]
    obtain ⟨f, hf⟩ : ∃ f, 41 - k = f + 1 := ⟨40 - k, by omega⟩
    rw [hf, e]
    unfold getF
    have hb : b.length ≤ k * 242 := by have : k = longN b.length := by omega
                                       rw [this]; unfold longN; omega
    rw [if_pos rfl, List.take_of_length_le (by omega), List.take_of_length_le hb]
  | q + 1, k, hk => by
    have hkL : k < L.length := by omega
    have hmem : L.getD k 0 ∈ L := by simp only [List.getD, List.getElem?_eq_getElem hkL, Option.getD_some]; exact List.getElem_mem hkL
    obtain ⟨h2, hn2⟩ := hlt _ hmem
    obtain ⟨f, hf⟩ : ∃ f, 41 - k = f + 1 := ⟨40 - k, by omega⟩
    have hnx : L.getD (k + 1) 0 < 4294967296 := by
      by_cases h1 : k + 1 < L.length
      · have : L.getD (k + 1) 0 ∈ L := by simp only [List.getD, List.getElem?_eq_getElem h1, Option.getD_some]; exact List.getElem_mem h1
        have := (hlt _ this).2
        omega
      · have : L.getD (k + 1) 0 = 0 := by simp [List.getD, List.getElem?_eq_none (show L.length ≤ k + 1 by omega)]
        omega
    have hpl := length_partB b k
    have hp : (partB b k).length ≤ 242 := by omega
    obtain ⟨n1, n2, n3⟩ := link_nums (L.getD (k + 1) 0) (partB b k) hnx hp
    have hfull : L.getD (k + 1) 0 ≠ 0 → (partB b k).length = 242 := by
      intro c
      have h1 : k + 1 < L.length := by
        apply Classical.byContradiction
        intro h
        exact c (by simp [List.getD, List.getElem?_eq_none (show L.length ≤ k + 1 by omega)])
      rw [hL] at h1
      unfold longN at h1
      omega
    rw [hf]
    unfold getF
    rw [hat k hkL, n1, n2, n3, if_neg (by omega), if_neg (by rw [List.length_take]; omega), if_neg (by omega)]
    have ef : f = 41 - (k + 1) := by omega
    have et : L.take k ++ [L.getD k 0] = L.take (k + 1) := by
      rw [List.take_succ_eq_append_getElem hkL]
      simp [List.getD, List.getElem?_eq_getElem hkL]
    rw [partB_take, et, ef]
    exact getF_laid n H' L b hL h40 hn hlt hat q (k + 1) (by omega)

/-- A chain that is laid reads back. -/
theorem getC_laid (n : Nat) (H' : Nat → Bs) (L : List Nat) (b : Bs) (i : Nat) (hi : L[0]? = some i) (hL : L.length = longN b.length) (h40 : L.length ≤ 40) (hn : n < 4294967296) (hlt : ∀ i ∈ L, 2 ≤ i ∧ i < n)
    (hat : ∀ k, k < L.length → H' (L.getD k 0) = linkB (L.getD (k + 1) 0) (partB b k)) : getC n H' i = (0, L, b) := by
  have hm := hlt i (List.mem_of_getElem? hi)
  have := getF_laid n H' L b hL h40 hn hlt hat L.length 0 (by omega)
  unfold getC
  rw [if_neg (by omega)]
  have e : L.getD 0 0 = i := by simp [List.getD, hi]
  rw [e] at this
  simpa using this

theorem tkB_free {n : Nat} : ∀ {k : Nat} {b b' : Bs} {l : List Nat}, b.length = 248 → tkB n k b = some (l, b') → l.Nodup ∧ (∀ i ∈ l, hasB b i = false) ∧ b'.length = 248 ∧ ∀ j, hasB b' j = (hasB b j || decide (j ∈ l))
  | 0, b, b', l, hl, h => by
    simp [tkB] at h
    obtain ⟨rfl, rfl⟩ := h
    simp [hl]
  | k + 1, b, b', l, hl, h => by
    obtain ⟨i, l', rfl, h1, h2⟩ := tkB_succ h
    obtain ⟨f1, f2, _⟩ := freeB_some h1
    obtain ⟨i2, i3⟩ := hasB_lo f2
    obtain ⟨g1, g2, g3, g4⟩ := tkB_free (by rw [length_turnB, hl]) h2
    have ht := fun j => has_turn b i j hl i2 i3
    have hni : i ∉ l' := fun c => by
      have := g2 i c
      rw [ht i, if_pos rfl, f2] at this
      simp at this
    refine ⟨List.nodup_cons.2 ⟨hni, g1⟩, fun j hj => ?_, g3, fun j => ?_⟩
    · rcases List.mem_cons.1 hj with rfl | hj
      · exact f2
      · have := g2 j hj
        rw [ht j, if_neg (fun c : j = i => hni (c ▸ hj))] at this
        exact this
    · rw [g4 j, ht j]
      by_cases e : j = i
      · subst e; simp [f2]
      · simp [e]
end Go.Proofs.YtonkeialdfofcaaGreatDoor
