/-
  The walk of the law ChainDrops.
-/
import Derived.Test.YtonkeialdfofcaaGreatDoorChainLaw2
import Derived.Test.YtonkeialdfofcaaGreatDoorWChain
namespace Go.Proofs.YtonkeialdfofcaaGreatDoor
open Go.RowKit Go

set_option maxHeartbeats 2000000 in
theorem chainDrops_walk (a fi : Nat) (w : World) (hl : LaidOk w) (ha : a < 65536) (hfi : fi < 4294967296) :
    Calls Tryz.prog 13 #[.int .u16 a, .int .u32 fi] w fun e w' => e = .returned (.bool true) ∧ Kp [] w w' := by
  have HL := Lib.hid hl
  obtain ⟨z, hz, hz2⟩ : ∃ z : Nat, (a : Int) % 2000 = z ∧ z < 2000 := ⟨a % 2000, by omega, by omega⟩
  obtain ⟨K, hK⟩ : ∃ K, longN z = K := ⟨_, rfl⟩
  have cva : IntKind.i64.wrap (a : Int) = a := IntWalk.i64_in _ (by omega)
  have hmk := fun w => run_makeN z w (by omega)
  have hZL := length_zeros z
  have hbl : (freshH 1).length = 248 := length_bitsB
  have hlf : leftB (freshH 1) 34 = 32 := left_fresh 34 (by omega)
  have hK9 : K ≤ 9 := by rw [← hK]; unfold longN; omega
  obtain ⟨L, B', htk⟩ := tkB_total (n := 34) K (freshH 1) hbl (by omega)
  obtain ⟨i, hi⟩ := tkB_first htk (by rw [← hK]; exact longN_pos z)
  have htk' : tkB 34 (longN (zeros z).length) (freshH 1) = some (L, B') := by rw [hZL, hK]; exact htk
  obtain ⟨p1, p2, p3, p4, p5, p6, p7⟩ := put_chain hbl (by rw [hZL]; omega) htk'
  generalize hH1 : laid L (zeros z) (fun j => if j = 1 then B' else freshH j) (longN (zeros z).length) = H1 at *
  have hi34 := (p1.lt i (List.mem_of_getElem? hi)).2
  have HPut := fun (w : World) (t : Nat) (F : List Nat) (v : Value) (h : TxSys w t 34 freshH F) (hb : BytesAt w v (zeros z)) => chain_Put v (zeros z) i L B' h (by decide) hb (by rw [hZL]; omega) htk' hi
  rw [hH1] at HPut
  have HP := Lib.hid HPut
  have HZL := Lib.hid hZL
  clear HPut hZL hH1
  have cv34 : IntKind.u32.wrap 34 = 34 := by decide
  by_cases hin : fi < 2 ∨ 34 ≤ fi
  · have hg : getC 34 H1 fi = (1, [], []) := by unfold getC; rw [if_pos hin]
    have HG := Lib.hid hg
    clear hl hK hlf hbl htk htk' hg p1 p2 p3 p4 p5 p6 p7 hi
    rcases hin with h1 | h1
    all_goals
      have h1' := h1
      go_enter Tryz.func13, Tryz.ntmps13
      go_wp2_with (first
        | (go_at_call 54; refine (begun22 _).mono ?_; rintro e w1 ⟨rfl, hk⟩; have HK1 := Lib.hid hk; clear hk)
        | (go_at_call 57; refine (law21_new 60 _ (by decide) (by decide)).mono ?_; rintro e w2 ⟨t, F, rfl, ht, hF, hk⟩; have HT := Lib.hid (show TxSys w2 t 34 freshH F from ht); have HF := Lib.hid hF; have HK2 := Lib.hid hk; clear ht hk hF)
        | (go_at_call 60; refine (HP.out _ _ F _ (HT.out.kp0 (Kp.alloc _ _)) (zN_bytes (blk_alloc_new _ _))).mono ?_; rintro e w4 ⟨rfl, ht, hk⟩; have HL4 := Lib.hid ((((HL.out.kp0 HK1.out).kp0 HK2.out).kp0 (Kp.alloc _ _)).sys (HT.out.kp0 (Kp.alloc _ _)) hk); have HT4 := Lib.hid ht; have HK4 := Lib.hid hk; clear ht hk)
        | (go_at_call 53; refine (ts_homes HT4.out).mono ?_; rintro e w5 ⟨rfl, q, rfl⟩)
        | (go_at_call 59; refine (chain_Get_no fi 1 [] [] (HT4.out.kp0 (by first | exact Kp.refl _ _ | exact Kp.drewN _ _)) (HL4.out.kp0 (by first | exact Kp.refl _ _ | exact Kp.drewN _ _)) hfi HG.out (by decide)).mono ?_; rintro e w6 ⟨rfl, ht, hk⟩; have HL6 := Lib.hid ((HL4.out.kp0 (by first | exact Kp.refl _ _ | exact Kp.drewN _ _)).sys (HT4.out.kp0 (by first | exact Kp.refl _ _ | exact Kp.drewN _ _)) hk); have HT6 := Lib.hid ht; have HK6 := Lib.hid hk; clear ht hk)
        | (go_at_call 63; refine (chain_Drop_no fi 1 [] [] HT6.out HL6.out hfi HG.out (by decide)).mono ?_; rintro e w7 ⟨rfl, ht, hk⟩; have HK7 := Lib.hid hk; clear ht hk))
      all_goals try (exfalso; omega)
      go_ret
      have hf : ∀ x ∈ F, w.heap.size ≤ x := fun x hx => by have := HF.out x hx; have := HK1.out.size; omega
      have k4 : Kp [] w w4 := ((HK1.out.and HK2.out).and (Kp.alloc _ _)).trans HK4.out (fun x hx => .inr (hf x hx))
      first
      | exact ⟨rfl, (k4.trans HK6.out (fun x hx => .inr (hf x hx))).trans HK7.out (fun x hx => .inr (hf x hx))⟩
      | exact ⟨rfl, ((k4.and (Kp.drewN _ _)).trans HK6.out (fun x hx => .inr (hf x hx))).trans HK7.out (fun x hx => .inr (hf x hx))⟩
  · have h1 : ¬ fi < 2 := by omega
    have h2 : ¬ 34 ≤ fi := by omega
    have hg := p1.get (by decide) hi
    have hall : ∀ j ∈ L, 2 ≤ j ∧ j < 34 ∧ j < 1984 ∧ hasB (H1 1) j = true := fun j hj => by
      have := p1.lt j hj
      refine ⟨this.1, this.2, by omega, ?_⟩
      rw [p2, p6 j]
      simp [hj]
    obtain ⟨d1, d2, d3, d4⟩ := dropB_all (n := 34) (by rw [p2]; exact p5) p1.nd hall
    have hg2 := (p1.congr (H' := fun j => if j = 1 then (dropB 34 L (H1 1)).2 else H1 j) (fun j hj => by
      have : j ≠ 1 := fun c => p1.one (c ▸ hj)
      simp [this])).get (by decide) hi
    have hd2 : dropB 34 L (dropB 34 L (H1 1)).2 = (1, (dropB 34 L (H1 1)).2) := dropB_not hi (by
      rw [d3 i]
      simp [List.mem_of_getElem? hi])
    have h40 := p1.h40
    have HG := Lib.hid hg
    have HG2 := Lib.hid hg2
    have HD1 := Lib.hid d1
    have HD2 := Lib.hid hd2
    clear hl hK hlf hbl htk htk' hg p1 p2 p3 p4 p5 p6 p7 hi hin hall d1 d2 d3 d4 hg2 hd2
    go_enter Tryz.func13, Tryz.ntmps13
    go_wp2_with (first
      | (go_at_call 54; refine (begun22 _).mono ?_; rintro e w1 ⟨rfl, hk⟩; have HK1 := Lib.hid hk; clear hk)
      | (go_at_call 57; refine (law21_new 60 _ (by decide) (by decide)).mono ?_; rintro e w2 ⟨t, F, rfl, ht, hF, hk⟩; have HT := Lib.hid (show TxSys w2 t 34 freshH F from ht); have HF := Lib.hid hF; have HK2 := Lib.hid hk; clear ht hk hF)
      | (go_at_call 60; refine (HP.out _ _ F _ (HT.out.kp0 (Kp.alloc _ _)) (zN_bytes (blk_alloc_new _ _))).mono ?_; rintro e w4 ⟨rfl, ht, hk⟩; have HT4 := Lib.hid ht; have HK4 := Lib.hid hk; clear ht hk)
      | (go_at_call 53; refine (ts_homes HT4.out).mono ?_; rintro e w5 ⟨rfl, q, rfl⟩; have HT5 := Lib.hid (HT4.out.kp0 (Kp.drewN _ q)))
      | (go_at_call 63; refine (chain_Drop i L (zeros z) HT5.out (by decide) (by omega) HG.out h40).mono ?_; rintro e w6 ⟨rfl, ht, hk⟩; rw [HD1.out]; have HT6 := Lib.hid ht; have HK6 := Lib.hid hk; clear ht hk HT5)
      | (go_at_call 63; refine (chain_DropD i L (zeros z) 1 _ HT6.out (by decide) (by omega) HG2.out h40 HD2.out).mono ?_; rintro e w7 ⟨rfl, ht, hk⟩; have HK7 := Lib.hid hk; clear ht hk))
    all_goals try (exfalso; omega)
    go_ret
    have hf : ∀ x ∈ F, w.heap.size ≤ x := fun x hx => by have := HF.out x hx; have := HK1.out.size; omega
    have k4 : Kp [] w w4 := ((HK1.out.and HK2.out).and (Kp.alloc _ _)).trans HK4.out (fun x hx => .inr (hf x hx))
    exact ⟨rfl, ((k4.and (Kp.drewN _ _)).trans HK6.out (fun x hx => .inr (hf x hx))).trans HK7.out (fun x hx => .inr (hf x hx))⟩
end Go.Proofs.YtonkeialdfofcaaGreatDoor
