/-
  The walks of the laws ChainFull and ChainDrops.
-/
import Derived.Test.YtonkeialdfofcaaGreatDoorChain2
import Derived.Test.YtonkeialdfofcaaGreatDoorBegun22
namespace Go.Proofs.YtonkeialdfofcaaGreatDoor
open Go.RowKit Go

theorem tkB_first {n K : Nat} {b B' : Bs} {L : List Nat} (h : tkB n K b = some (L, B')) (hK : 1 ≤ K) : ∃ i, L[0]? = some i := ⟨_, List.getElem?_eq_getElem (by rw [tkB_len h]; omega)⟩
theorem longN_pos (z : Nat) : 1 ≤ longN z := by unfold longN; omega
theorem freshH1 : freshH 1 = bitsB := rfl

set_option maxHeartbeats 2000000 in
theorem chainFull_walk (a b : Nat) (w : World) (hl : LaidOk w) (ha : a < 65536) (hb : b < 256) :
    Calls Tryz.prog 12 #[.int .u16 a, .int .u8 b] w fun e w' => e = .returned (.bool true) ∧ Kp [] w w' := by
  have HL := Lib.hid hl
  obtain ⟨r, hr, hr40⟩ : ∃ r : Nat, (b : Int) % 40 = r ∧ r < 40 := ⟨b % 40, by omega, by omega⟩
  obtain ⟨z, hz, hz2⟩ : ∃ z : Nat, (a : Int) % 9681 = z ∧ z ≤ 9680 := ⟨a % 9681, by omega, by omega⟩
  obtain ⟨K, hK⟩ : ∃ K, longN z = K := ⟨_, rfl⟩
  obtain ⟨lf, hlf⟩ : ∃ lf, leftB (freshH 1) (36 + r - 26) = lf := ⟨_, rfl⟩
  have cva : IntKind.i64.wrap (a : Int) = a := IntWalk.i64_in _ (by omega)
  have cvr : IntKind.i64.wrap (r : Int) = r := IntWalk.i64_in _ (by omega)
  have hmk := fun w => run_makeN z w (by omega)
  have HZL := Lib.hid (length_zeros z)
  have HK := Lib.hid hK
  have HLF := Lib.hid hlf
  have hbl : (freshH 1).length = 248 := length_bitsB
  by_cases hfit : K ≤ lf
  · obtain ⟨L, B', htk⟩ := tkB_total (n := 36 + r - 26) K (freshH 1) hbl (by omega)
    obtain ⟨i, hi⟩ := tkB_first htk (by rw [← hK]; exact longN_pos z)
    have HTK := Lib.hid htk
    have HI := Lib.hid hi
    clear hl hK hlf hbl htk hi
    go_enter Tryz.func12, Tryz.ntmps12
    go_wp2_with (first
      | (go_at_call 54; refine (begun22 _).mono ?_; rintro e w1 ⟨rfl, hk⟩; have HK1 := Lib.hid hk; clear hk)
      | (go_at_call 57; rw [show (36 + (r : Int)) = ((36 + r : Nat) : Int) by omega]; refine (law21_new (36 + r) _ (by omega) (by omega)).mono ?_; rintro e w2 ⟨t, F, rfl, ht, hF, hk⟩; have HT := Lib.hid ht; have HF := Lib.hid hF; have HK2 := Lib.hid hk; clear ht hk hF)
      | (go_at_call 62; refine (space_Left (HT.out.kp0 (Kp.alloc _ _)) (by omega)).mono ?_; rintro e w3 ⟨rfl, ht, hk⟩; rw [HLF.out]; have hb3 := (zN_bytes (blk_alloc_new w2 _)).kp hk (HT.out.kp0 (Kp.alloc _ _)).noB; have HB3 := Lib.hid hb3; have HT3 := Lib.hid ht; have HK3 := Lib.hid hk; clear ht hk hb3)
      | (go_at_call 60; refine (chain_Put _ (zeros z) i L B' HT3.out (by omega) HB3.out (by rw [HZL.out]; omega) (by rw [HZL.out, HK.out]; exact HTK.out) HI.out).mono ?_; rintro e w4 ⟨rfl, ht, hk⟩; have HK4 := Lib.hid hk; clear ht hk)
      | (go_at_call 56; refine (ref_long _ _ (by omega)).mono ?_; rintro e w5 ⟨rfl, rfl⟩; rw [Int.toNat_natCast, HK.out]))
    go_ret
    refine ⟨rfl, (((HK1.out.and HK2.out).and (Kp.alloc _ _)).trans HK3.out (fun x hx => .inr ?_)).trans HK4.out (fun x hx => .inr ?_)⟩ <;> · have := HF.out x hx; have := HK1.out.size; omega
  · have htk := tkB_none (n := 36 + r - 26) (k := K) hbl (by omega)
    have HTK := Lib.hid htk
    clear hl hK hlf hbl htk
    go_enter Tryz.func12, Tryz.ntmps12
    go_wp2_with (first
      | (go_at_call 54; refine (begun22 _).mono ?_; rintro e w1 ⟨rfl, hk⟩; have HK1 := Lib.hid hk; clear hk)
      | (go_at_call 57; rw [show (36 + (r : Int)) = ((36 + r : Nat) : Int) by omega]; refine (law21_new (36 + r) _ (by omega) (by omega)).mono ?_; rintro e w2 ⟨t, F, rfl, ht, hF, hk⟩; have HT := Lib.hid ht; have HF := Lib.hid hF; have HK2 := Lib.hid hk; clear ht hk hF)
      | (go_at_call 62; refine (space_Left (HT.out.kp0 (Kp.alloc _ _)) (by omega)).mono ?_; rintro e w3 ⟨rfl, ht, hk⟩; rw [HLF.out]; have hb3 := (zN_bytes (blk_alloc_new w2 _)).kp hk (HT.out.kp0 (Kp.alloc _ _)).noB; have HB3 := Lib.hid hb3; have HL3 := Lib.hid ((((HL.out.kp0 HK1.out).kp0 HK2.out).kp0 (Kp.alloc _ _)).sys (HT.out.kp0 (Kp.alloc _ _)) hk); have HT3 := Lib.hid ht; have HK3 := Lib.hid hk; clear ht hk hb3)
      | (go_at_call 60; refine (chain_Put_full _ (zeros z) HT3.out HL3.out (by omega) HB3.out (by rw [HZL.out]; omega) (by rw [HZL.out, HK.out]; exact HTK.out)).mono ?_; rintro e w4 ⟨H4, rfl, ht, hk⟩; have HK4 := Lib.hid hk; clear ht hk)
      | (go_at_call 56; refine (ref_long _ _ (by omega)).mono ?_; rintro e w5 ⟨rfl, rfl⟩; rw [Int.toNat_natCast, HK.out]))
    go_ret
    refine ⟨rfl, (((HK1.out.and HK2.out).and (Kp.alloc _ _)).trans HK3.out (fun x hx => .inr ?_)).trans HK4.out (fun x hx => .inr ?_)⟩ <;> · have := HF.out x hx; have := HK1.out.size; omega
end Go.Proofs.YtonkeialdfofcaaGreatDoor
