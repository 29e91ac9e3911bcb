/-
  The law ChainWrites returns true, whatever its arguments: its row and its card.
-/
import Derived.Test.YtonkeialdfofcaaGreatDoorWChain3
import Derived.Test.YtonkeialdfofcaaGreatDoorLawKit
import Derived.Test.YtonkeialdfofcaaGreatDoorCards
import Derived.Test.YtonkeialdfofcaaGreatDoorTie
namespace Go.Proofs.YtonkeialdfofcaaGreatDoor
open Go.ChangeShapes Go.WideShapes Go.RowKit

set_option maxRecDepth 100000 in
theorem chainWrites_open {H : Type} (enc : TypeId × Value → H) (W : World) (base : Nat) (args : Array Value) (ds : List (DataW H)) (p : List MemPlace) (hval : ∀ (j : Nat) t v, Tryz.f11.params[j]? = some t → args[j]? = some v → Value.okWide Tryz.prog W .any base t v)
    (hA : DataW.TrodAll enc Tryz.prog W 0 (fun _ => true) true Tryz.f11.params.toList args.toList ds p) (hl : LaidOk W) : Calls Tryz.prog 11 args W fun e W' => e = .returned (.bool true) ∧ Kp [] W W' := by
  rw [Tryz.params11] at hA hval
  obtain ⟨v0, v1, d0, d1, q0, q1, rfl, rfl, rfl, h0, h1⟩ := trodAll_two hA
  obtain ⟨z0, rfl, rfl, rfl, w0⟩ := open_int Tryz.underlying46 (hval 0 46 v0 rfl rfl) h0
  have b0 := bounds_u16 w0
  obtain ⟨n0, rfl⟩ : ∃ n : Nat, z0 = n := ⟨z0.toNat, by omega⟩
  obtain ⟨z1, rfl, rfl, rfl, w1⟩ := open_int Tryz.underlying5 (hval 1 5 v1 rfl rfl) h1
  have b1 := bounds_u8 w1
  obtain ⟨n1, rfl⟩ : ∃ n : Nat, z1 = n := ⟨z1.toNat, by omega⟩
  exact chainWrites_walk n0 n1 W hl (by omega) (by omega)

theorem chainWrites_holds : Rows.ChainWritesSaid :=
  OpenClaim.holds_of_wide 11 Tryz.f11 rfl rfl rfl rfl rfl rfl rfl ⟨rfl, rfl, rfl, rfl, rfl⟩ rfl rfl rfl rfl rfl (by kernel_rfl) Tryz.func11 (by kernel_rfl)
    (of_decide_eq_true (by kernel_rfl)) (by unfold Func.isWrapper; rw [if_neg (of_decide_eq_false (by kernel_rfl))]; exact ⟨rfl, rfl⟩)
    (fun os started H enc _ => law_lifted (s := Rows.chainWritesSpec) started (by kernel_rfl) Tryz.func11 rfl (by kernel_rfl) (by rw [Tryz.params11]; intro t ht; simp at ht; rcases ht with rfl | rfl <;> exact ⟨by kernel_rfl, of_decide_eq_true (by kernel_rfl)⟩)
      (fun ds hd => by rw [Tryz.params11] at hd; match ds, hd with | [d0, d1], _ => rfl)
      (law_witness os #[.int .u16 0, .int .u8 0] 8 (by kernel_rfl) (by kernel_rfl) (by kernel_rfl) (by kernel_rfl) (by kernel_rfl))
      (chainWrites_open enc))

theorem chainWrites_card : Rows.ChainWritesCardSaid :=
  Claim7.holds_tied_plain_at .later [] [.handle] true (true, "addee5d2307f48be784d4af1a9a7858a2ac7fecd88f2e6518e04ca97e66062a7") true
    chainWrites_holds (fun _ h => by cases h) (by kernel_rfl) (fun _ h => by cases h) chainWrites_row_tie rfl ⟨rfl, rfl⟩ (by kernel_rfl) rfl
    (fun f fn hf hfn => by
      obtain rfl : f = 11 := Option.some.inj ((show Tryz.prog.funcNamed "scriptory/scriptorylaw22.ChainWrites" = some 11 by kernel_rfl).symm.trans hf) |>.symm
      obtain rfl : fn = Tryz.f11 := (Option.some.inj (Tryz.func11.symm.trans hfn)).symm
      exact ⟨by kernel_rfl, fun j t ht => by
        rw [Tryz.params11] at ht
        have h3 : t ∈ #[46, 5] := Array.mem_of_getElem? ht
        simp at h3
        rcases h3 with rfl | rfl
        · exact (show Tryz.prog.wantsStandIn 46 = false by kernel_rfl)
        · exact (show Tryz.prog.wantsStandIn 5 = false by kernel_rfl)⟩)
    (by kernel_rfl)
end Go.Proofs.YtonkeialdfofcaaGreatDoor
