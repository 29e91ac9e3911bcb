/-
  The law ChainReads returns true, whatever its arguments: its row and its card.
-/
import Derived.Test.YtonkeialdfofcaaGreatDoorWChain4
import Derived.Test.YtonkeialdfofcaaGreatDoorOpenArgs
import Derived.Test.YtonkeialdfofcaaGreatDoorCards
import Derived.Test.YtonkeialdfofcaaGreatDoorTie
namespace Go.Proofs.YtonkeialdfofcaaGreatDoor
open Go.ChangeShapes Go.WideShapes Go.RowKit

set_option maxRecDepth 100000 in
theorem chainReads_open {H : Type} (enc : TypeId × Value → H) (W : World) (base : Nat) (args : Array Value) (ds : List (DataW H)) (p : List MemPlace) (hval : ∀ (j : Nat) t v, Tryz.f10.params[j]? = some t → args[j]? = some v → Value.okWide Tryz.prog W .any base t v)
    (hA : DataW.TrodAll enc Tryz.prog W 0 (fun _ => true) true Tryz.f10.params.toList args.toList ds p) (hl : LaidOk W) : Calls Tryz.prog 10 args W fun e W' => e = .returned (.bool true) ∧ Kp [] W W' := by
  rw [Tryz.params10] at hA hval
  obtain ⟨v0, v1, v2, d0, d1, d2, q0, q1, q2, rfl, rfl, rfl, h0, h1, h2⟩ := trodAll_three hA
  obtain ⟨a0, l0, c0, rfl⟩ := okWide_slice Tryz.underlying88 (hval 0 88 v0 rfl rfl)
  obtain ⟨f0, g0⟩ := h0
  obtain ⟨x0, y0⟩ := inl_of_trod g0
  obtain ⟨z1, rfl, rfl, rfl, w1⟩ := open_int Tryz.underlying89 (hval 1 89 v1 rfl rfl) h1
  have b1 := bounds_u32 w1
  obtain ⟨n1, rfl⟩ : ∃ n : Nat, z1 = n := ⟨z1.toNat, by omega⟩
  obtain ⟨a2, l2, c2, rfl⟩ := okWide_slice Tryz.underlying30 (hval 2 30 v2 rfl rfl)
  obtain ⟨f2, g2⟩ := h2
  obtain ⟨x2, y2⟩ := inb_of_trod g2
  exact chainReads_walk x0 n1 x2 _ _ W hl y0 y2 (by omega)

theorem chainReads_holds : Rows.ChainReadsSaid :=
  OpenClaim.holds_of_wide 10 Tryz.f10 rfl rfl rfl rfl rfl rfl rfl ⟨rfl, rfl, rfl, rfl, rfl⟩ rfl rfl rfl rfl rfl (by kernel_rfl) Tryz.func10 (by kernel_rfl)
    (of_decide_eq_true (by kernel_rfl)) (by unfold Func.isWrapper; rw [if_neg (of_decide_eq_false (by kernel_rfl))]; exact ⟨rfl, rfl⟩)
    (fun os started H enc _ => law_lifted (s := Rows.chainReadsSpec) started (by kernel_rfl) Tryz.func10 rfl (by kernel_rfl) (by rw [Tryz.params10]; intro t ht; simp at ht; rcases ht with rfl | rfl | rfl <;> exact ⟨by kernel_rfl, of_decide_eq_true (by kernel_rfl)⟩)
      (fun ds hd => by rw [Tryz.params10] at hd; match ds, hd with | [d0, d1, d2], _ => rfl)
      (law_witness os #[.slice none 0 0, .int .u32 0, .slice none 0 0] 8 (by kernel_rfl) (by kernel_rfl) (by kernel_rfl) (by kernel_rfl) (by kernel_rfl))
      (chainReads_open enc))

theorem chainReads_card : Rows.ChainReadsCardSaid :=
  Claim7.holds_tied_plain_at .later [] [.handle] true (true, "addee5d2307f48be784d4af1a9a7858a2ac7fecd88f2e6518e04ca97e66062a7") true
    chainReads_holds (fun _ h => by cases h) (by kernel_rfl) (fun _ h => by cases h) chainReads_row_tie rfl ⟨rfl, rfl⟩ (by kernel_rfl) rfl
    (fun f fn hf hfn => by
      obtain rfl : f = 10 := Option.some.inj ((show Tryz.prog.funcNamed "scriptory/scriptorylaw22.ChainReads" = some 10 by kernel_rfl).symm.trans hf) |>.symm
      obtain rfl : fn = Tryz.f10 := (Option.some.inj (Tryz.func10.symm.trans hfn)).symm
      exact ⟨by kernel_rfl, fun j t ht => by
        rw [Tryz.params10] at ht
        have h3 : t ∈ #[88, 89, 30] := Array.mem_of_getElem? ht
        simp at h3
        rcases h3 with rfl | rfl | rfl
        · exact (show Tryz.prog.wantsStandIn 88 = false by kernel_rfl)
        · exact (show Tryz.prog.wantsStandIn 89 = false by kernel_rfl)
        · exact (show Tryz.prog.wantsStandIn 30 = false by kernel_rfl)⟩)
    (by kernel_rfl)
end Go.Proofs.YtonkeialdfofcaaGreatDoor
