/-
  chain.Long and scriptoryref25.Long.
-/
import Derived.Test.YtonkeialdfofcaaGreatDoorSpace3
namespace Go.Proofs.YtonkeialdfofcaaGreatDoor
open Go.RowKit Go

/-- How many homes n bytes need. -/
def longN (n : Nat) : Nat := max (n / 242 + min (n % 242) 1) 1
theorem longN_ref (n : Nat) : longN n = max ((n + 241) / 242) 1 := by unfold longN; omega

theorem returned_int {a b : Int} (k : IntKind) (h : a = b) : Ending.returned (.int k a) = Ending.returned (.int k b) := by rw [h]

set_option maxRecDepth 20000 in
theorem chain_long (z : Int) (w : World) (h2 : z ≤ 9223372036854775807) : Calls Tryz.prog 55 #[.int .i64 z] w fun e w' => e = .returned (.int .i64 (longN z.toNat)) ∧ w = w' := by
  have q0 : 0 ≤ (z : Int) → 0 ≤ (z : Int) / 242 := by omega
  by_cases hz : z ≤ 0
  · have hm : max z 0 = 0 := by omega
    have e : longN z.toNat = 1 := by have : z.toNat = 0 := by omega
                                     rw [this]; rfl
    rw [e]
    clear e q0
    go_enter Tryz.func55, Tryz.ntmps55
    go_wp2
    all_goals try (exfalso; omega)
    all_goals
      go_ret
      exact ⟨rfl, rfl⟩
  · obtain ⟨m, rfl⟩ : ∃ m : Nat, z = m := ⟨z.toNat, by omega⟩
    have hm : max (m : Int) 0 = m := by omega
    have e : longN (m : Int).toNat = max (m / 242 + min (m % 242) 1) 1 := by simp [longN]
    rw [e]
    have q0 : 0 ≤ (m : Int) / 242 := by omega
    have q1 : (m : Int) / 242 ≤ 38113107590308990 := by omega
    have r0 : 0 ≤ (m : Int) % 242 := by omega
    have r1 : (m : Int) % 242 < 242 := by omega
    clear e
    go_enter Tryz.func55, Tryz.ntmps55
    go_wp2
    all_goals try (exfalso; omega)
    all_goals
      go_ret
      exact ⟨returned_int _ (by omega), rfl⟩

theorem ref_long (z : Int) (w : World) (h2 : z ≤ 1099511627776) : Calls Tryz.prog 56 #[.int .i64 z] w fun e w' => e = .returned (.int .i64 (longN z.toNat)) ∧ w = w' := by
  rw [longN_ref]
  go_enter Tryz.func56, Tryz.ntmps56
  go_wp2
  all_goals try (exfalso; omega)
  all_goals
    go_ret
    exact ⟨returned_int _ (by omega), rfl⟩
end Go.Proofs.YtonkeialdfofcaaGreatDoor
