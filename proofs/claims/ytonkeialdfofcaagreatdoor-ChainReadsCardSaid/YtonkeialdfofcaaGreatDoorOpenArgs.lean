/-
  Arguments that came in, opened: bytes, rows of bytes.
-/
import Derived.Test.YtonkeialdfofcaaGreatDoorLawKit
import Derived.Test.YtonkeialdfofcaaGreatDoorArgs
import Derived.ChangeSlices
import Derived.Deep.Slices
namespace Go.Proofs.YtonkeialdfofcaaGreatDoor
open Go.ChangeShapes Go.WideShapes Go.RowKit

theorem wf_u8 {n : Int} (h : (Lit.int .u8 n).wf = true) : 0 ≤ n ∧ n < 256 := by have := bounds_u8 h; omega

section
variable {H : Type} {enc : TypeId × Value → H} {W : World} {sp : Nat → Bool} {held : Bool}
theorem inb_of_trod {fuel : Nat} {v : Value} {x : DataW H × List MemPlace} (h : DataW.trod enc Tryz.prog W 0 sp held fuel 30 [v] = some x) : ∃ bs, InB W v bs := by
  rcases open_ints (k := .u8) Tryz.underlying30 Tryz.underlying5 (by kernel_rfl) h with ⟨hc, _⟩ | ⟨a, len, cap, zs, hc, _, hl, _, hz, _, hcell, hwf⟩
  · obtain rfl : v = _ := by simpa using hc
    exact ⟨[], none, 0, rfl, fun _ => rfl, (fun ad e => by cases e)⟩
  · obtain rfl : v = _ := by simpa using hc
    have hlz : len ≤ zs.length := by rw [hz]; split <;> omega
    have hlen : ((zs.take len).map fun n => UInt8.ofNat n.toNat).length = len := by simp; omega
    refine ⟨(zs.take len).map fun n => UInt8.ofNat n.toNat, some a, cap, by rw [hlen], (fun e => by cases e), fun ad e j u hu => ?_⟩
    obtain rfl := Option.some.inj e
    have hj : j < len := by
      have := (List.getElem?_eq_some_iff.1 hu).1
      rw [length_u8s, hlen] at this
      exact this
    rw [hcell j (by omega)]
    rw [u8s_get, List.getElem?_map, List.getElem?_take, if_pos hj, List.getElem?_eq_getElem (show j < zs.length by omega)] at hu
    have hw := wf_u8 (hwf zs[j] (List.getElem_mem (by omega)))
    rw [← hu]
    have e2 : zs.getD j 0 = zs[j] := by simp [List.getD, List.getElem?_eq_getElem (show j < zs.length by omega)]
    rw [e2]
    show some (Value.int .u8 zs[j]) = some (bv (UInt8.ofNat zs[j].toNat))
    unfold bv
    congr 2
    have : (UInt8.ofNat zs[j].toNat).toNat = zs[j].toNat := by simp; omega
    rw [this]
    omega
theorem inl_of_trod {fuel : Nat} {v : Value} {x : DataW H × List MemPlace} (h : DataW.trod enc Tryz.prog W 0 sp held fuel 88 [v] = some x) : ∃ ls, InL W v ls := by
  rcases Deep.open_slice1 Tryz.underlying88 (by kernel_rfl) h with ⟨hc, _⟩ | ⟨a, len, cap, m, n, V, D, Pl, hc, _, hl, _, hm, _, hx⟩
  · obtain rfl : v = _ := by simpa using hc
    exact ⟨[], none, 0, rfl, fun _ => rfl, (fun ad e => by cases e)⟩
  · obtain rfl : v = _ := by simpa using hc
    have hlm : len ≤ m := by rw [hm]; split <;> omega
    obtain ⟨f, hf⟩ : ∃ f : Nat → Bs, ∀ i, i < len → InB W (V i) (f i) := by
      refine Classical.axiomOfChoice (r := fun i b => i < len → InB W (V i) b) fun i => ?_
      by_cases hi : i < len
      · obtain ⟨b, hb⟩ := inb_of_trod (hx i (by omega)).2
        exact ⟨b, fun _ => hb⟩
      · exact ⟨[], fun c => absurd c hi⟩
    have hlen : ((List.range len).map f).length = len := by simp
    refine ⟨(List.range len).map f, some a, cap, by rw [hlen], (fun e => by cases e), fun ad e j b hb => ?_⟩
    obtain rfl := Option.some.inj e
    have hj : j < len := by
      have := (List.getElem?_eq_some_iff.1 hb).1
      rw [hlen] at this
      exact this
    rw [List.getElem?_map, List.getElem?_range hj] at hb
    obtain rfl := Option.some.inj hb
    exact ⟨V j, (hx j (by omega)).1, hf j hj⟩
end
end Go.Proofs.YtonkeialdfofcaaGreatDoor
