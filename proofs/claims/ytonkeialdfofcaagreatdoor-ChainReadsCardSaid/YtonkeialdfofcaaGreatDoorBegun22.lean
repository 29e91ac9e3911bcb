/-
  scriptorylaw22.begun returns true.
-/
import Derived.Test.YtonkeialdfofcaaGreatDoorChainLaw
namespace Go.Proofs.YtonkeialdfofcaaGreatDoor
open Go.RowKit Go

set_option maxRecDepth 20000 in
theorem tk_abc : tkB 34 (longN ([97, 98, 99] : Bs).length) (freshH 1) = some ([2], turnB bitsB 2) := by decide +kernel
theorem get_abc (H0 : Nat → Bs) : getC 34 (laid [2] [97, 98, 99] H0 (longN ([97, 98, 99] : Bs).length)) 2 = (0, [2], [97, 98, 99]) := by
  refine getC_laid 34 _ [2] [97, 98, 99] 2 rfl rfl (by decide) (by decide) (by simp) ?_
  intro k hk
  exact laid_at [2] _ _ (by simp) 1 (by decide) k (by simpa using hk)
theorem abc_at {w : World} {b : Nat} {fz : Nat × Nat} (h : w.heap[b]? = some (.cells #[.int .u8 97, .int .u8 98, .int .u8 99] 5 fz)) : BytesAt w (.slice (some ⟨b, 0, none⟩) 3 3) [97, 98, 99] := by
  refine .inr ⟨b, 0, 3, _, fz, rfl, by decide, h, by simp, fun i hi => ?_⟩
  have hi : i < 3 := hi
  rcases (show i = 0 ∨ i = 1 ∨ i = 2 by omega) with rfl | rfl | rfl <;> rfl

set_option maxRecDepth 20000 in
set_option maxHeartbeats 1000000 in
theorem begun22 (w : World) : Calls Tryz.prog 54 #[] w fun e w' => e = .returned (.bool true) ∧ Kp [] w w' := by
  have kc := fun (w : World) (C : Array Value) (n c : Nat) => Lib.run_convert_bytes_const (P := Tryz.prog) w 30 5 C n c Tryz.underlying30 Tryz.underlying5
  have HTK := Lib.hid tk_abc
  have HGT := Lib.hid get_abc
  have hl := Lib.hid (show longN (243 : Int).toNat = 2 by decide)
  go_enter Tryz.func54, Tryz.ntmps54
  go_wp2_with (first
    | (go_at_call 57; refine (law21_new 60 _ (by decide) (by decide)).mono ?_; rintro e w1 ⟨t, F, rfl, ht, hF, hk⟩; have HT := Lib.hid ht; have HF := Lib.hid hF; have HK := Lib.hid hk; clear ht hk hF)
    | (go_at_call 60; refine (chain_Put _ [97, 98, 99] 2 [2] _ (HT.out.kp0 (Kp.alloc _ _)) (by decide) (abc_at (blk_alloc_new _ _)) (by decide) HTK.out rfl).mono ?_; rintro e w2 ⟨rfl, ht2, hk2⟩; have HT2 := Lib.hid ht2; have HK2 := Lib.hid hk2; clear ht2 hk2)
    | (go_at_call 59; refine (chain_Get 2 [2] [97, 98, 99] HT2.out (by decide) (HGT.out _)).mono ?_; rintro e w3 ⟨v3, rfl, ho3, ht3, hk3⟩; have hst := run_string_of v3 _ w3 ho3.bytes; have HK3 := Lib.hid hk3; clear ho3 ht3 hk3)
    | (go_at_call 55; refine (chain_long 243 _ (by decide)).mono ?_; rintro e w4 ⟨rfl, rfl⟩; rw [hl.out]))
  go_ret
  exact ⟨rfl, ((HK.out.and (Kp.alloc _ _)).trans HK2.out (fun x hx => .inr (HF.out x hx))).trans HK3.out (fun x hx => .inr (HF.out x hx))⟩
end Go.Proofs.YtonkeialdfofcaaGreatDoor
