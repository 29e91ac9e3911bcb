/-
  The law ChainDrops returns true, whatever its arguments: its row and its card.
-/
import Derived.Test.YtonkeialdfofcaaGreatDoorWChain2
import Derived.Test.YtonkeialdfofcaaGreatDoorLawKit
import Derived.Test.YtonkeialdfofcaaGreatDoorCards
import Derived.Test.YtonkeialdfofcaaGreatDoorTie
namespace Go.Proofs.YtonkeialdfofcaaGreatDoor
open Go.ChangeShapes Go.WideShapes Go.RowKit

set_option maxRecDepth 100000 in
theorem chainDrops_open {H : Type} (enc : TypeId × Value → H) (W : World) (base : Nat) (args : Array Value) (ds : List (DataW H)) (p : List MemPlace) (hval : ∀ (j : Nat) t v, Tryz.f13.params[j]? = some t → args[j]? = some v → Value.okWide Tryz.prog W .any base t v)
    (hA : DataW.TrodAll enc Tryz.prog W 0 (fun _ => true) true Tryz.f13.params.toList args.toList ds p) (hl : LaidOk W) : Calls Tryz.prog 13 args W fun e W' => e = .returned (.bool true) ∧ Kp [] W W' := by
  rw [Tryz.params13] at hA hval
  obtain ⟨v0, v1, d0, d1, q0, q1, rfl, rfl, rfl, h0, h1⟩ := trodAll_two hA
  obtain ⟨z0, rfl, rfl, rfl, w0⟩ := open_int Tryz.underlying46 (hval 0 46 v0 rfl rfl) h0
  have b0 := bounds_u16 w0
  obtain ⟨n0, rfl⟩ : ∃ n : Nat, z0 = n := ⟨z0.toNat, by omega⟩
  obtain ⟨z1, rfl, rfl, rfl, w1⟩ := open_int Tryz.underlying89 (hval 1 89 v1 rfl rfl) h1
  have b1 := bounds_u32 w1
  obtain ⟨n1, rfl⟩ : ∃ n : Nat, z1 = n := ⟨z1.toNat, by omega⟩
  exact chainDrops_walk n0 n1 W hl (by omega) (by omega)

theorem chainDrops_holds : Rows.ChainDropsSaid :=
  OpenClaim.holds_of_wide 13 Tryz.f13 rfl rfl rfl rfl rfl rfl rfl ⟨rfl, rfl, rfl, rfl, rfl⟩ rfl rfl rfl rfl rfl (by kernel_rfl) Tryz.func13 (by kernel_rfl)
    (of_decide_eq_true (by kernel_rfl)) (by unfold Func.isWrapper; rw [if_neg (of_decide_eq_false (by kernel_rfl))]; exact ⟨rfl, rfl⟩)
    (fun os started H enc _ => law_lifted (s := Rows.chainDropsSpec) started (by kernel_rfl) Tryz.func13 rfl (by kernel_rfl) (by rw [Tryz.params13]; intro t ht; simp at ht; rcases ht with rfl | rfl <;> exact ⟨by kernel_rfl, of_decide_eq_true (by kernel_rfl)⟩)
      (fun ds hd => by rw [Tryz.params13] at hd; match ds, hd with | [d0, d1], _ => rfl)
      (law_witness os #[.int .u16 0, .int .u32 0] 8 (by kernel_rfl) (by kernel_rfl) (by kernel_rfl) (by kernel_rfl) (by kernel_rfl))
      (chainDrops_open enc))

theorem chainDrops_card : Rows.ChainDropsCardSaid :=
  Claim7.holds_tied_plain_at .later [] [.handle] true (true, "addee5d2307f48be784d4af1a9a7858a2ac7fecd88f2e6518e04ca97e66062a7") true
    chainDrops_holds (fun _ h => by cases h) (by kernel_rfl) (fun _ h => by cases h) chainDrops_row_tie rfl ⟨rfl, rfl⟩ (by kernel_rfl) rfl
    (fun f fn hf hfn => by
      obtain rfl : f = 13 := Option.some.inj ((show Tryz.prog.funcNamed "scriptory/scriptorylaw22.ChainDrops" = some 13 by kernel_rfl).symm.trans hf) |>.symm
      obtain rfl : fn = Tryz.f13 := (Option.some.inj (Tryz.func13.symm.trans hfn)).symm
      exact ⟨by kernel_rfl, fun j t ht => by
        rw [Tryz.params13] at ht
        have h3 : t ∈ #[46, 89] := Array.mem_of_getElem? ht
        simp at h3
        rcases h3 with rfl | rfl
        · exact (show Tryz.prog.wantsStandIn 46 = false by kernel_rfl)
        · exact (show Tryz.prog.wantsStandIn 89 = false by kernel_rfl)⟩)
    (by kernel_rfl)
end Go.Proofs.YtonkeialdfofcaaGreatDoor
