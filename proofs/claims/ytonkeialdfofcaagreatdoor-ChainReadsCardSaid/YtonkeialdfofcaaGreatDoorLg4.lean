/-
  Whether an anchor stands: the contract of 'stands'.
-/
import Derived.Test.YtonkeialdfofcaaGreatDoorLg3
namespace Go.Proofs.YtonkeialdfofcaaGreatDoor
open Go.RowKit Go

/-- Does an anchor stand in these bytes, on a disk of so many sectors? -/
def standsB (bs : Bs) (n : Nat) : Bool :=
  !(numAt bs 0 8 == 0) && (numAt bs 0 8 == numAt bs 248 8) && decide (1 ≤ numAt bs 8 8) && decide (numAt bs 8 8 ≤ 4611686018427387903) &&
  decide (8 ≤ numAt bs 20 4) && decide (numAt bs 20 4 ≤ 512) && decide (numAt bs 16 4 < numAt bs 20 4) && decide (numAt bs 20 4 + 10 ≤ n)

theorem numAt_lt (bs : Bs) (a n : Nat) : numAt bs a n < 256 ^ n := by
  unfold numAt
  refine Nat.lt_of_lt_of_le (takeN_lt _) (Nat.pow_le_pow_right (by decide) ?_)
  simp
  omega

theorem Kp.allocN {w w' : World} (h : Kp [] w w') (o : Obj) : Kp [] w (w'.alloc o) := h.and (Kp.alloc _ _)
theorem Kp.drewN' {w w' : World} (h : Kp [] w w') (n : Nat) : Kp [] w (w'.drewN n) := h.and (Kp.drewN _ _)
theorem Kp.setNew {w w' : World} (h : Kp [] w w') (a : Addr) (v : Value) (ha : w.heap.size ≤ a.block) : Kp [] w (w'.setCell a v) :=
  h.trans (Kp.setCell _ _ _) (fun x hx => .inr (by simp at hx; rw [hx]; exact ha))
theorem blk_alloc_old {w : World} {b : Nat} {o o' : Obj} (h : w.heap[b]? = some o) : (w.alloc o').heap[b]? = some o := (Kp.alloc w o').at h (by simp)

set_option maxHeartbeats 4000000 in
theorem stands_0 (v : Value) (N S TL T PL RG : Nat) (w : World) (_hn : N ≤ 1900) (hPL : PL < 4294967296) (hRG : RG < 4294967296) (h0 : S = 0)
    (G0 : ∀ w', Kp [] w w' → Calls Tryz.prog 163 #[v] w' fun e w'' => e = .returned (.int .u64 S) ∧ w' = w'')
    (G8 : ∀ w', Kp [] w w' → Calls Tryz.prog 164 #[v, .int .i64 8, .int .i64 8] w' fun e w'' => e = .returned (.int .u64 T) ∧ w' = w'')
    (G16 : ∀ w', Kp [] w w' → Calls Tryz.prog 164 #[v, .int .i64 16, .int .i64 4] w' fun e w'' => e = .returned (.int .u64 PL) ∧ w' = w'')
    (G20 : ∀ w', Kp [] w w' → Calls Tryz.prog 164 #[v, .int .i64 20, .int .i64 4] w' fun e w'' => e = .returned (.int .u64 RG) ∧ w' = w'')
    (_G248 : ∀ w', Kp [] w w' → Calls Tryz.prog 164 #[v, .int .i64 248, .int .i64 8] w' fun e w'' => e = .returned (.int .u64 TL) ∧ w' = w'') :
    Calls Tryz.prog 151 #[v, .int .i64 N] w fun e w' => e = .returned (.tuple #[.agg #[.int .u64 0, .int .u64 0, .int .i64 0, .int .i64 0], .bool false]) ∧ Kp [] w w' := by
  have cv1 : IntKind.i64.wrap (RG : Int) = RG := IntWalk.i64_in _ (by omega)
  have cv2 : IntKind.i64.wrap (PL : Int) = PL := IntWalk.i64_in _ (by omega)
  have b0_0 : ((S : Int) == 0) = true := by first | (simp; omega) | (simp [bne]; omega)
  clear h0
  go_enter Tryz.func151, Tryz.ntmps151
  go_wp2_with (first
    | (go_at_call 163; refine (G0 _ (Kp.alloc _ _)).mono ?_; rintro e w' ⟨rfl, rfl⟩)
    | (go_at_call_of 164 (Value.int .i64 16); refine (G16 _ ((Kp.alloc _ _).and (Kp.alloc _ _))).mono ?_; rintro e w' ⟨rfl, rfl⟩)
    | (go_at_call_of 164 (Value.int .i64 20); refine (G20 _ ((Kp.alloc _ _).and (Kp.alloc _ _))).mono ?_; rintro e w' ⟨rfl, rfl⟩)
    | (go_at_call_of 164 (Value.int .i64 8); refine (G8 _ (Kp.alloc _ _)).mono ?_; rintro e w' ⟨rfl, rfl⟩))
  go_quiet ((go_at_call 164; exact quiet_same (G248 _ (((Kp.alloc _ _).and (Kp.alloc _ _)).and (Kp.drewN _ _)))))
  go_wp2
  refine bodyPost_ret (v := .tuple #[.agg #[.int .u64 0, .int .u64 0, .int .i64 0, .int .i64 0], .bool false]) (by simp [results, Tryz.results151, go_sem]) rfl ⟨rfl, ?_⟩
  repeat (first | (with_reducible exact Kp.refl _ _) | (with_reducible refine Kp.allocN ?_ _) | (with_reducible refine Kp.drewN' ?_ _) | (with_reducible refine Kp.setNew ?_ _ _ (by simp)))

set_option maxHeartbeats 4000000 in
theorem stands_1 (v : Value) (N S TL T PL RG : Nat) (w : World) (_hn : N ≤ 1900) (hPL : PL < 4294967296) (hRG : RG < 4294967296) (h0 : ¬ (S = 0)) (h1 : S ≠ TL)
    (G0 : ∀ w', Kp [] w w' → Calls Tryz.prog 163 #[v] w' fun e w'' => e = .returned (.int .u64 S) ∧ w' = w'')
    (G8 : ∀ w', Kp [] w w' → Calls Tryz.prog 164 #[v, .int .i64 8, .int .i64 8] w' fun e w'' => e = .returned (.int .u64 T) ∧ w' = w'')
    (G16 : ∀ w', Kp [] w w' → Calls Tryz.prog 164 #[v, .int .i64 16, .int .i64 4] w' fun e w'' => e = .returned (.int .u64 PL) ∧ w' = w'')
    (G20 : ∀ w', Kp [] w w' → Calls Tryz.prog 164 #[v, .int .i64 20, .int .i64 4] w' fun e w'' => e = .returned (.int .u64 RG) ∧ w' = w'')
    (G248 : ∀ w', Kp [] w w' → Calls Tryz.prog 164 #[v, .int .i64 248, .int .i64 8] w' fun e w'' => e = .returned (.int .u64 TL) ∧ w' = w'') :
    Calls Tryz.prog 151 #[v, .int .i64 N] w fun e w' => e = .returned (.tuple #[.agg #[.int .u64 0, .int .u64 0, .int .i64 0, .int .i64 0], .bool false]) ∧ Kp [] w w' := by
  have cv1 : IntKind.i64.wrap (RG : Int) = RG := IntWalk.i64_in _ (by omega)
  have cv2 : IntKind.i64.wrap (PL : Int) = PL := IntWalk.i64_in _ (by omega)
  have b0_0 : ((S : Int) == 0) = false := by first | (simp; omega) | (simp [bne]; omega)
  have b1_0 : ((S : Int) != (TL : Int)) = true := by first | (simp; omega) | (simp [bne]; omega)
  have b1_1 : (S != TL) = true := by first | (simp; omega) | (simp [bne]; omega)
  clear h0 h1
  go_enter Tryz.func151, Tryz.ntmps151
  go_wp2_with (first
    | (go_at_call 163; refine (G0 _ (Kp.alloc _ _)).mono ?_; rintro e w' ⟨rfl, rfl⟩)
    | (go_at_call_of 164 (Value.int .i64 16); refine (G16 _ ((Kp.alloc _ _).and (Kp.alloc _ _))).mono ?_; rintro e w' ⟨rfl, rfl⟩)
    | (go_at_call_of 164 (Value.int .i64 20); refine (G20 _ ((Kp.alloc _ _).and (Kp.alloc _ _))).mono ?_; rintro e w' ⟨rfl, rfl⟩)
    | (go_at_call_of 164 (Value.int .i64 8); refine (G8 _ (Kp.alloc _ _)).mono ?_; rintro e w' ⟨rfl, rfl⟩))
  go_quiet ((go_at_call 164; exact quiet_same (G248 _ (((Kp.alloc _ _).and (Kp.alloc _ _)).and (Kp.drewN _ _)))))
  go_wp2
  refine bodyPost_ret (v := .tuple #[.agg #[.int .u64 0, .int .u64 0, .int .i64 0, .int .i64 0], .bool false]) (by simp [results, Tryz.results151, go_sem]) rfl ⟨rfl, ?_⟩
  repeat (first | (with_reducible exact Kp.refl _ _) | (with_reducible refine Kp.allocN ?_ _) | (with_reducible refine Kp.drewN' ?_ _) | (with_reducible refine Kp.setNew ?_ _ _ (by simp)))

set_option maxHeartbeats 4000000 in
theorem stands_2 (v : Value) (N S TL T PL RG : Nat) (w : World) (_hn : N ≤ 1900) (hPL : PL < 4294967296) (hRG : RG < 4294967296) (h0 : ¬ (S = 0)) (h1 : ¬ (S ≠ TL)) (h2 : T < 1)
    (G0 : ∀ w', Kp [] w w' → Calls Tryz.prog 163 #[v] w' fun e w'' => e = .returned (.int .u64 S) ∧ w' = w'')
    (G8 : ∀ w', Kp [] w w' → Calls Tryz.prog 164 #[v, .int .i64 8, .int .i64 8] w' fun e w'' => e = .returned (.int .u64 T) ∧ w' = w'')
    (G16 : ∀ w', Kp [] w w' → Calls Tryz.prog 164 #[v, .int .i64 16, .int .i64 4] w' fun e w'' => e = .returned (.int .u64 PL) ∧ w' = w'')
    (G20 : ∀ w', Kp [] w w' → Calls Tryz.prog 164 #[v, .int .i64 20, .int .i64 4] w' fun e w'' => e = .returned (.int .u64 RG) ∧ w' = w'')
    (G248 : ∀ w', Kp [] w w' → Calls Tryz.prog 164 #[v, .int .i64 248, .int .i64 8] w' fun e w'' => e = .returned (.int .u64 TL) ∧ w' = w'') :
    Calls Tryz.prog 151 #[v, .int .i64 N] w fun e w' => e = .returned (.tuple #[.agg #[.int .u64 0, .int .u64 0, .int .i64 0, .int .i64 0], .bool false]) ∧ Kp [] w w' := by
  have cv1 : IntKind.i64.wrap (RG : Int) = RG := IntWalk.i64_in _ (by omega)
  have cv2 : IntKind.i64.wrap (PL : Int) = PL := IntWalk.i64_in _ (by omega)
  have b0_0 : ((S : Int) == 0) = false := by first | (simp; omega) | (simp [bne]; omega)
  have b1_0 : ((S : Int) != (TL : Int)) = false := by first | (simp; omega) | (simp [bne]; omega)
  have b1_1 : (S != TL) = false := by first | (simp; omega) | (simp [bne]; omega)
  have b2_0 : decide ((T : Int) < 1) = true := by first | (simp; omega) | (simp [bne]; omega)
  clear h0 h1
  go_enter Tryz.func151, Tryz.ntmps151
  go_wp2_with (first
    | (go_at_call 163; refine (G0 _ (Kp.alloc _ _)).mono ?_; rintro e w' ⟨rfl, rfl⟩)
    | (go_at_call_of 164 (Value.int .i64 16); refine (G16 _ ((Kp.alloc _ _).and (Kp.alloc _ _))).mono ?_; rintro e w' ⟨rfl, rfl⟩)
    | (go_at_call_of 164 (Value.int .i64 20); refine (G20 _ ((Kp.alloc _ _).and (Kp.alloc _ _))).mono ?_; rintro e w' ⟨rfl, rfl⟩)
    | (go_at_call_of 164 (Value.int .i64 8); refine (G8 _ (Kp.alloc _ _)).mono ?_; rintro e w' ⟨rfl, rfl⟩))
  go_quiet ((go_at_call 164; exact quiet_same (G248 _ (((Kp.alloc _ _).and (Kp.alloc _ _)).and (Kp.drewN _ _)))))
  go_wp2
  refine bodyPost_ret (v := .tuple #[.agg #[.int .u64 0, .int .u64 0, .int .i64 0, .int .i64 0], .bool false]) (by simp [results, Tryz.results151, go_sem]) rfl ⟨rfl, ?_⟩
  repeat (first | (with_reducible exact Kp.refl _ _) | (with_reducible refine Kp.allocN ?_ _) | (with_reducible refine Kp.drewN' ?_ _) | (with_reducible refine Kp.setNew ?_ _ _ (by simp)))

set_option maxHeartbeats 4000000 in
theorem stands_3 (v : Value) (N S TL T PL RG : Nat) (w : World) (_hn : N ≤ 1900) (hPL : PL < 4294967296) (hRG : RG < 4294967296) (h0 : ¬ (S = 0)) (h1 : ¬ (S ≠ TL)) (_h2 : ¬ (T < 1)) (h3 : 4611686018427387903 < T)
    (G0 : ∀ w', Kp [] w w' → Calls Tryz.prog 163 #[v] w' fun e w'' => e = .returned (.int .u64 S) ∧ w' = w'')
    (G8 : ∀ w', Kp [] w w' → Calls Tryz.prog 164 #[v, .int .i64 8, .int .i64 8] w' fun e w'' => e = .returned (.int .u64 T) ∧ w' = w'')
    (G16 : ∀ w', Kp [] w w' → Calls Tryz.prog 164 #[v, .int .i64 16, .int .i64 4] w' fun e w'' => e = .returned (.int .u64 PL) ∧ w' = w'')
    (G20 : ∀ w', Kp [] w w' → Calls Tryz.prog 164 #[v, .int .i64 20, .int .i64 4] w' fun e w'' => e = .returned (.int .u64 RG) ∧ w' = w'')
    (G248 : ∀ w', Kp [] w w' → Calls Tryz.prog 164 #[v, .int .i64 248, .int .i64 8] w' fun e w'' => e = .returned (.int .u64 TL) ∧ w' = w'') :
    Calls Tryz.prog 151 #[v, .int .i64 N] w fun e w' => e = .returned (.tuple #[.agg #[.int .u64 0, .int .u64 0, .int .i64 0, .int .i64 0], .bool false]) ∧ Kp [] w w' := by
  have cv1 : IntKind.i64.wrap (RG : Int) = RG := IntWalk.i64_in _ (by omega)
  have cv2 : IntKind.i64.wrap (PL : Int) = PL := IntWalk.i64_in _ (by omega)
  have b0_0 : ((S : Int) == 0) = false := by first | (simp; omega) | (simp [bne]; omega)
  have b1_0 : ((S : Int) != (TL : Int)) = false := by first | (simp; omega) | (simp [bne]; omega)
  have b1_1 : (S != TL) = false := by first | (simp; omega) | (simp [bne]; omega)
  have b2_0 : decide ((T : Int) < 1) = false := by first | (simp; omega) | (simp [bne]; omega)
  have b3_0 : decide ((4611686018427387903 : Int) < (T : Int)) = true := by first | (simp; omega) | (simp [bne]; omega)
  clear h0 h1
  go_enter Tryz.func151, Tryz.ntmps151
  go_wp2_with (first
    | (go_at_call 163; refine (G0 _ (Kp.alloc _ _)).mono ?_; rintro e w' ⟨rfl, rfl⟩)
    | (go_at_call_of 164 (Value.int .i64 16); refine (G16 _ ((Kp.alloc _ _).and (Kp.alloc _ _))).mono ?_; rintro e w' ⟨rfl, rfl⟩)
    | (go_at_call_of 164 (Value.int .i64 20); refine (G20 _ ((Kp.alloc _ _).and (Kp.alloc _ _))).mono ?_; rintro e w' ⟨rfl, rfl⟩)
    | (go_at_call_of 164 (Value.int .i64 8); refine (G8 _ (Kp.alloc _ _)).mono ?_; rintro e w' ⟨rfl, rfl⟩))
  go_quiet ((go_at_call 164; exact quiet_same (G248 _ (((Kp.alloc _ _).and (Kp.alloc _ _)).and (Kp.drewN _ _)))))
  go_wp2
  refine bodyPost_ret (v := .tuple #[.agg #[.int .u64 0, .int .u64 0, .int .i64 0, .int .i64 0], .bool false]) (by simp [results, Tryz.results151, go_sem]) rfl ⟨rfl, ?_⟩
  repeat (first | (with_reducible exact Kp.refl _ _) | (with_reducible refine Kp.allocN ?_ _) | (with_reducible refine Kp.drewN' ?_ _) | (with_reducible refine Kp.setNew ?_ _ _ (by simp)))

set_option maxHeartbeats 4000000 in
theorem stands_4 (v : Value) (N S TL T PL RG : Nat) (w : World) (_hn : N ≤ 1900) (hPL : PL < 4294967296) (hRG : RG < 4294967296) (h0 : ¬ (S = 0)) (h1 : ¬ (S ≠ TL)) (h2 : ¬ (T < 1)) (h3 : ¬ (4611686018427387903 < T)) (h4 : RG < 8)
    (G0 : ∀ w', Kp [] w w' → Calls Tryz.prog 163 #[v] w' fun e w'' => e = .returned (.int .u64 S) ∧ w' = w'')
    (G8 : ∀ w', Kp [] w w' → Calls Tryz.prog 164 #[v, .int .i64 8, .int .i64 8] w' fun e w'' => e = .returned (.int .u64 T) ∧ w' = w'')
    (G16 : ∀ w', Kp [] w w' → Calls Tryz.prog 164 #[v, .int .i64 16, .int .i64 4] w' fun e w'' => e = .returned (.int .u64 PL) ∧ w' = w'')
    (G20 : ∀ w', Kp [] w w' → Calls Tryz.prog 164 #[v, .int .i64 20, .int .i64 4] w' fun e w'' => e = .returned (.int .u64 RG) ∧ w' = w'')
    (G248 : ∀ w', Kp [] w w' → Calls Tryz.prog 164 #[v, .int .i64 248, .int .i64 8] w' fun e w'' => e = .returned (.int .u64 TL) ∧ w' = w'') :
    Calls Tryz.prog 151 #[v, .int .i64 N] w fun e w' => e = .returned (.tuple #[.agg #[.int .u64 0, .int .u64 0, .int .i64 0, .int .i64 0], .bool false]) ∧ Kp [] w w' := by
  have cv1 : IntKind.i64.wrap (RG : Int) = RG := IntWalk.i64_in _ (by omega)
  have cv2 : IntKind.i64.wrap (PL : Int) = PL := IntWalk.i64_in _ (by omega)
  have b0_0 : ((S : Int) == 0) = false := by first | (simp; omega) | (simp [bne]; omega)
  have b1_0 : ((S : Int) != (TL : Int)) = false := by first | (simp; omega) | (simp [bne]; omega)
  have b1_1 : (S != TL) = false := by first | (simp; omega) | (simp [bne]; omega)
  have b2_0 : decide ((T : Int) < 1) = false := by first | (simp; omega) | (simp [bne]; omega)
  have b3_0 : decide ((4611686018427387903 : Int) < (T : Int)) = false := by first | (simp; omega) | (simp [bne]; omega)
  have b4_0 : decide ((RG : Int) < 8) = true := by first | (simp; omega) | (simp [bne]; omega)
  clear h0 h1
  go_enter Tryz.func151, Tryz.ntmps151
  go_wp2_with (first
    | (go_at_call 163; refine (G0 _ (Kp.alloc _ _)).mono ?_; rintro e w' ⟨rfl, rfl⟩)
    | (go_at_call_of 164 (Value.int .i64 16); refine (G16 _ ((Kp.alloc _ _).and (Kp.alloc _ _))).mono ?_; rintro e w' ⟨rfl, rfl⟩)
    | (go_at_call_of 164 (Value.int .i64 20); refine (G20 _ ((Kp.alloc _ _).and (Kp.alloc _ _))).mono ?_; rintro e w' ⟨rfl, rfl⟩)
    | (go_at_call_of 164 (Value.int .i64 8); refine (G8 _ (Kp.alloc _ _)).mono ?_; rintro e w' ⟨rfl, rfl⟩))
  go_quiet ((go_at_call 164; exact quiet_same (G248 _ (((Kp.alloc _ _).and (Kp.alloc _ _)).and (Kp.drewN _ _)))))
  go_wp2
  refine bodyPost_ret (v := .tuple #[.agg #[.int .u64 0, .int .u64 0, .int .i64 0, .int .i64 0], .bool false]) (by simp [results, Tryz.results151, go_sem]) rfl ⟨rfl, ?_⟩
  repeat (first | (with_reducible exact Kp.refl _ _) | (with_reducible refine Kp.allocN ?_ _) | (with_reducible refine Kp.drewN' ?_ _) | (with_reducible refine Kp.setNew ?_ _ _ (by simp)))

set_option maxHeartbeats 4000000 in
theorem stands_5 (v : Value) (N S TL T PL RG : Nat) (w : World) (_hn : N ≤ 1900) (hPL : PL < 4294967296) (hRG : RG < 4294967296) (h0 : ¬ (S = 0)) (h1 : ¬ (S ≠ TL)) (h2 : ¬ (T < 1)) (h3 : ¬ (4611686018427387903 < T)) (h4 : ¬ (RG < 8)) (h5 : 512 < RG)
    (G0 : ∀ w', Kp [] w w' → Calls Tryz.prog 163 #[v] w' fun e w'' => e = .returned (.int .u64 S) ∧ w' = w'')
    (G8 : ∀ w', Kp [] w w' → Calls Tryz.prog 164 #[v, .int .i64 8, .int .i64 8] w' fun e w'' => e = .returned (.int .u64 T) ∧ w' = w'')
    (G16 : ∀ w', Kp [] w w' → Calls Tryz.prog 164 #[v, .int .i64 16, .int .i64 4] w' fun e w'' => e = .returned (.int .u64 PL) ∧ w' = w'')
    (G20 : ∀ w', Kp [] w w' → Calls Tryz.prog 164 #[v, .int .i64 20, .int .i64 4] w' fun e w'' => e = .returned (.int .u64 RG) ∧ w' = w'')
    (G248 : ∀ w', Kp [] w w' → Calls Tryz.prog 164 #[v, .int .i64 248, .int .i64 8] w' fun e w'' => e = .returned (.int .u64 TL) ∧ w' = w'') :
    Calls Tryz.prog 151 #[v, .int .i64 N] w fun e w' => e = .returned (.tuple #[.agg #[.int .u64 0, .int .u64 0, .int .i64 0, .int .i64 0], .bool false]) ∧ Kp [] w w' := by
  have cv1 : IntKind.i64.wrap (RG : Int) = RG := IntWalk.i64_in _ (by omega)
  have cv2 : IntKind.i64.wrap (PL : Int) = PL := IntWalk.i64_in _ (by omega)
  have b0_0 : ((S : Int) == 0) = false := by first | (simp; omega) | (simp [bne]; omega)
  have b1_0 : ((S : Int) != (TL : Int)) = false := by first | (simp; omega) | (simp [bne]; omega)
  have b1_1 : (S != TL) = false := by first | (simp; omega) | (simp [bne]; omega)
  have b2_0 : decide ((T : Int) < 1) = false := by first | (simp; omega) | (simp [bne]; omega)
  have b3_0 : decide ((4611686018427387903 : Int) < (T : Int)) = false := by first | (simp; omega) | (simp [bne]; omega)
  have b4_0 : decide ((RG : Int) < 8) = false := by first | (simp; omega) | (simp [bne]; omega)
  have b5_0 : decide ((512 : Int) < (RG : Int)) = true := by first | (simp; omega) | (simp [bne]; omega)
  clear h0 h1
  go_enter Tryz.func151, Tryz.ntmps151
  go_wp2_with (first
    | (go_at_call 163; refine (G0 _ (Kp.alloc _ _)).mono ?_; rintro e w' ⟨rfl, rfl⟩)
    | (go_at_call_of 164 (Value.int .i64 16); refine (G16 _ ((Kp.alloc _ _).and (Kp.alloc _ _))).mono ?_; rintro e w' ⟨rfl, rfl⟩)
    | (go_at_call_of 164 (Value.int .i64 20); refine (G20 _ ((Kp.alloc _ _).and (Kp.alloc _ _))).mono ?_; rintro e w' ⟨rfl, rfl⟩)
    | (go_at_call_of 164 (Value.int .i64 8); refine (G8 _ (Kp.alloc _ _)).mono ?_; rintro e w' ⟨rfl, rfl⟩))
  go_quiet ((go_at_call 164; exact quiet_same (G248 _ (((Kp.alloc _ _).and (Kp.alloc _ _)).and (Kp.drewN _ _)))))
  go_wp2
  refine bodyPost_ret (v := .tuple #[.agg #[.int .u64 0, .int .u64 0, .int .i64 0, .int .i64 0], .bool false]) (by simp [results, Tryz.results151, go_sem]) rfl ⟨rfl, ?_⟩
  repeat (first | (with_reducible exact Kp.refl _ _) | (with_reducible refine Kp.allocN ?_ _) | (with_reducible refine Kp.drewN' ?_ _) | (with_reducible refine Kp.setNew ?_ _ _ (by simp)))

set_option maxHeartbeats 4000000 in
theorem stands_6 (v : Value) (N S TL T PL RG : Nat) (w : World) (_hn : N ≤ 1900) (hPL : PL < 4294967296) (hRG : RG < 4294967296) (h0 : ¬ (S = 0)) (h1 : ¬ (S ≠ TL)) (h2 : ¬ (T < 1)) (h3 : ¬ (4611686018427387903 < T)) (h4 : ¬ (RG < 8)) (h5 : ¬ (512 < RG)) (h6 : RG ≤ PL)
    (G0 : ∀ w', Kp [] w w' → Calls Tryz.prog 163 #[v] w' fun e w'' => e = .returned (.int .u64 S) ∧ w' = w'')
    (G8 : ∀ w', Kp [] w w' → Calls Tryz.prog 164 #[v, .int .i64 8, .int .i64 8] w' fun e w'' => e = .returned (.int .u64 T) ∧ w' = w'')
    (G16 : ∀ w', Kp [] w w' → Calls Tryz.prog 164 #[v, .int .i64 16, .int .i64 4] w' fun e w'' => e = .returned (.int .u64 PL) ∧ w' = w'')
    (G20 : ∀ w', Kp [] w w' → Calls Tryz.prog 164 #[v, .int .i64 20, .int .i64 4] w' fun e w'' => e = .returned (.int .u64 RG) ∧ w' = w'')
    (G248 : ∀ w', Kp [] w w' → Calls Tryz.prog 164 #[v, .int .i64 248, .int .i64 8] w' fun e w'' => e = .returned (.int .u64 TL) ∧ w' = w'') :
    Calls Tryz.prog 151 #[v, .int .i64 N] w fun e w' => e = .returned (.tuple #[.agg #[.int .u64 0, .int .u64 0, .int .i64 0, .int .i64 0], .bool false]) ∧ Kp [] w w' := by
  have cv1 : IntKind.i64.wrap (RG : Int) = RG := IntWalk.i64_in _ (by omega)
  have cv2 : IntKind.i64.wrap (PL : Int) = PL := IntWalk.i64_in _ (by omega)
  have b0_0 : ((S : Int) == 0) = false := by first | (simp; omega) | (simp [bne]; omega)
  have b1_0 : ((S : Int) != (TL : Int)) = false := by first | (simp; omega) | (simp [bne]; omega)
  have b1_1 : (S != TL) = false := by first | (simp; omega) | (simp [bne]; omega)
  have b2_0 : decide ((T : Int) < 1) = false := by first | (simp; omega) | (simp [bne]; omega)
  have b3_0 : decide ((4611686018427387903 : Int) < (T : Int)) = false := by first | (simp; omega) | (simp [bne]; omega)
  have b4_0 : decide ((RG : Int) < 8) = false := by first | (simp; omega) | (simp [bne]; omega)
  have b5_0 : decide ((512 : Int) < (RG : Int)) = false := by first | (simp; omega) | (simp [bne]; omega)
  have b6_0 : decide ((RG : Int) ≤ (PL : Int)) = true := by first | (simp; omega) | (simp [bne]; omega)
  have b6_1 : decide (RG ≤ PL) = true := by first | (simp; omega) | (simp [bne]; omega)
  clear h0 h1
  go_enter Tryz.func151, Tryz.ntmps151
  go_wp2_with (first
    | (go_at_call 163; refine (G0 _ (Kp.alloc _ _)).mono ?_; rintro e w' ⟨rfl, rfl⟩)
    | (go_at_call_of 164 (Value.int .i64 16); refine (G16 _ ((Kp.alloc _ _).and (Kp.alloc _ _))).mono ?_; rintro e w' ⟨rfl, rfl⟩)
    | (go_at_call_of 164 (Value.int .i64 20); refine (G20 _ ((Kp.alloc _ _).and (Kp.alloc _ _))).mono ?_; rintro e w' ⟨rfl, rfl⟩)
    | (go_at_call_of 164 (Value.int .i64 8); refine (G8 _ (Kp.alloc _ _)).mono ?_; rintro e w' ⟨rfl, rfl⟩))
  go_quiet ((go_at_call 164; exact quiet_same (G248 _ (((Kp.alloc _ _).and (Kp.alloc _ _)).and (Kp.drewN _ _)))))
  go_wp2
  refine bodyPost_ret (v := .tuple #[.agg #[.int .u64 0, .int .u64 0, .int .i64 0, .int .i64 0], .bool false]) (by simp [results, Tryz.results151, go_sem]) rfl ⟨rfl, ?_⟩
  repeat (first | (with_reducible exact Kp.refl _ _) | (with_reducible refine Kp.allocN ?_ _) | (with_reducible refine Kp.drewN' ?_ _) | (with_reducible refine Kp.setNew ?_ _ _ (by simp)))

set_option maxHeartbeats 4000000 in
theorem stands_7 (v : Value) (N S TL T PL RG : Nat) (w : World) (hn : N ≤ 1900) (hPL : PL < 4294967296) (hRG : RG < 4294967296) (h0 : ¬ (S = 0)) (h1 : ¬ (S ≠ TL)) (h2 : ¬ (T < 1)) (h3 : ¬ (4611686018427387903 < T)) (h4 : ¬ (RG < 8)) (h5 : ¬ (512 < RG)) (h6 : ¬ (RG ≤ PL)) (h7 : (N : Int) - 2 - RG < 8)
    (G0 : ∀ w', Kp [] w w' → Calls Tryz.prog 163 #[v] w' fun e w'' => e = .returned (.int .u64 S) ∧ w' = w'')
    (G8 : ∀ w', Kp [] w w' → Calls Tryz.prog 164 #[v, .int .i64 8, .int .i64 8] w' fun e w'' => e = .returned (.int .u64 T) ∧ w' = w'')
    (G16 : ∀ w', Kp [] w w' → Calls Tryz.prog 164 #[v, .int .i64 16, .int .i64 4] w' fun e w'' => e = .returned (.int .u64 PL) ∧ w' = w'')
    (G20 : ∀ w', Kp [] w w' → Calls Tryz.prog 164 #[v, .int .i64 20, .int .i64 4] w' fun e w'' => e = .returned (.int .u64 RG) ∧ w' = w'')
    (G248 : ∀ w', Kp [] w w' → Calls Tryz.prog 164 #[v, .int .i64 248, .int .i64 8] w' fun e w'' => e = .returned (.int .u64 TL) ∧ w' = w'') :
    Calls Tryz.prog 151 #[v, .int .i64 N] w fun e w' => e = .returned (.tuple #[.agg #[.int .u64 0, .int .u64 0, .int .i64 0, .int .i64 0], .bool false]) ∧ Kp [] w w' := by
  have cv1 : IntKind.i64.wrap (RG : Int) = RG := IntWalk.i64_in _ (by omega)
  have cv2 : IntKind.i64.wrap (PL : Int) = PL := IntWalk.i64_in _ (by omega)
  have b0_0 : ((S : Int) == 0) = false := by first | (simp; omega) | (simp [bne]; omega)
  have b1_0 : ((S : Int) != (TL : Int)) = false := by first | (simp; omega) | (simp [bne]; omega)
  have b1_1 : (S != TL) = false := by first | (simp; omega) | (simp [bne]; omega)
  have b2_0 : decide ((T : Int) < 1) = false := by first | (simp; omega) | (simp [bne]; omega)
  have b3_0 : decide ((4611686018427387903 : Int) < (T : Int)) = false := by first | (simp; omega) | (simp [bne]; omega)
  have b4_0 : decide ((RG : Int) < 8) = false := by first | (simp; omega) | (simp [bne]; omega)
  have b5_0 : decide ((512 : Int) < (RG : Int)) = false := by first | (simp; omega) | (simp [bne]; omega)
  have b6_0 : decide ((RG : Int) ≤ (PL : Int)) = false := by first | (simp; omega) | (simp [bne]; omega)
  have b6_1 : decide (RG ≤ PL) = false := by first | (simp; omega) | (simp [bne]; omega)
  have b7_0 : decide ((N : Int) - 2 - (RG : Int) < 8) = true := by first | (simp; omega) | (simp [bne]; omega)
  clear h0 h1
  go_enter Tryz.func151, Tryz.ntmps151
  go_wp2_with (first
    | (go_at_call 163; refine (G0 _ (Kp.alloc _ _)).mono ?_; rintro e w' ⟨rfl, rfl⟩)
    | (go_at_call_of 164 (Value.int .i64 16); refine (G16 _ ((Kp.alloc _ _).and (Kp.alloc _ _))).mono ?_; rintro e w' ⟨rfl, rfl⟩)
    | (go_at_call_of 164 (Value.int .i64 20); refine (G20 _ ((Kp.alloc _ _).and (Kp.alloc _ _))).mono ?_; rintro e w' ⟨rfl, rfl⟩)
    | (go_at_call_of 164 (Value.int .i64 8); refine (G8 _ (Kp.alloc _ _)).mono ?_; rintro e w' ⟨rfl, rfl⟩))
  go_quiet ((go_at_call 164; exact quiet_same (G248 _ (((Kp.alloc _ _).and (Kp.alloc _ _)).and (Kp.drewN _ _)))))
  go_wp2
  refine bodyPost_ret (v := .tuple #[.agg #[.int .u64 0, .int .u64 0, .int .i64 0, .int .i64 0], .bool false]) (by simp [results, Tryz.results151, go_sem]) rfl ⟨rfl, ?_⟩
  repeat (first | (with_reducible exact Kp.refl _ _) | (with_reducible refine Kp.allocN ?_ _) | (with_reducible refine Kp.drewN' ?_ _) | (with_reducible refine Kp.setNew ?_ _ _ (by simp)))

set_option maxHeartbeats 4000000 in
theorem stands_8 (v : Value) (N S TL T PL RG : Nat) (w : World) (hn : N ≤ 1900) (hPL : PL < 4294967296) (hRG : RG < 4294967296) (h0 : ¬ (S = 0)) (h1 : ¬ (S ≠ TL)) (h2 : ¬ (T < 1)) (h3 : ¬ (4611686018427387903 < T)) (h4 : ¬ (RG < 8)) (h5 : ¬ (512 < RG)) (h6 : ¬ (RG ≤ PL)) (h7 : ¬ ((N : Int) - 2 - RG < 8))
    (G0 : ∀ w', Kp [] w w' → Calls Tryz.prog 163 #[v] w' fun e w'' => e = .returned (.int .u64 S) ∧ w' = w'')
    (G8 : ∀ w', Kp [] w w' → Calls Tryz.prog 164 #[v, .int .i64 8, .int .i64 8] w' fun e w'' => e = .returned (.int .u64 T) ∧ w' = w'')
    (G16 : ∀ w', Kp [] w w' → Calls Tryz.prog 164 #[v, .int .i64 16, .int .i64 4] w' fun e w'' => e = .returned (.int .u64 PL) ∧ w' = w'')
    (G20 : ∀ w', Kp [] w w' → Calls Tryz.prog 164 #[v, .int .i64 20, .int .i64 4] w' fun e w'' => e = .returned (.int .u64 RG) ∧ w' = w'')
    (G248 : ∀ w', Kp [] w w' → Calls Tryz.prog 164 #[v, .int .i64 248, .int .i64 8] w' fun e w'' => e = .returned (.int .u64 TL) ∧ w' = w'') :
    Calls Tryz.prog 151 #[v, .int .i64 N] w fun e w' => e = .returned (.tuple #[.agg #[.int .u64 S, .int .u64 T, .int .i64 PL, .int .i64 RG], .bool true]) ∧ Kp [] w w' := by
  have cv1 : IntKind.i64.wrap (RG : Int) = RG := IntWalk.i64_in _ (by omega)
  have cv2 : IntKind.i64.wrap (PL : Int) = PL := IntWalk.i64_in _ (by omega)
  have b0_0 : ((S : Int) == 0) = false := by first | (simp; omega) | (simp [bne]; omega)
  have b1_0 : ((S : Int) != (TL : Int)) = false := by first | (simp; omega) | (simp [bne]; omega)
  have b1_1 : (S != TL) = false := by first | (simp; omega) | (simp [bne]; omega)
  have b2_0 : decide ((T : Int) < 1) = false := by first | (simp; omega) | (simp [bne]; omega)
  have b3_0 : decide ((4611686018427387903 : Int) < (T : Int)) = false := by first | (simp; omega) | (simp [bne]; omega)
  have b4_0 : decide ((RG : Int) < 8) = false := by first | (simp; omega) | (simp [bne]; omega)
  have b5_0 : decide ((512 : Int) < (RG : Int)) = false := by first | (simp; omega) | (simp [bne]; omega)
  have b6_0 : decide ((RG : Int) ≤ (PL : Int)) = false := by first | (simp; omega) | (simp [bne]; omega)
  have b6_1 : decide (RG ≤ PL) = false := by first | (simp; omega) | (simp [bne]; omega)
  have b7_0 : decide ((N : Int) - 2 - (RG : Int) < 8) = false := by first | (simp; omega) | (simp [bne]; omega)
  clear h0 h1
  go_enter Tryz.func151, Tryz.ntmps151
  go_wp2_with (first
    | (go_at_call 163; refine (G0 _ (Kp.alloc _ _)).mono ?_; rintro e w' ⟨rfl, rfl⟩)
    | (go_at_call_of 164 (Value.int .i64 16); refine (G16 _ ((Kp.alloc _ _).and (Kp.alloc _ _))).mono ?_; rintro e w' ⟨rfl, rfl⟩)
    | (go_at_call_of 164 (Value.int .i64 20); refine (G20 _ ((Kp.alloc _ _).and (Kp.alloc _ _))).mono ?_; rintro e w' ⟨rfl, rfl⟩)
    | (go_at_call_of 164 (Value.int .i64 8); refine (G8 _ (Kp.alloc _ _)).mono ?_; rintro e w' ⟨rfl, rfl⟩))
  go_quiet ((go_at_call 164; exact quiet_same (G248 _ (((Kp.alloc _ _).and (Kp.alloc _ _)).and (Kp.drewN _ _)))))
  go_wp2
  refine bodyPost_ret (v := .tuple #[.agg #[.int .u64 S, .int .u64 T, .int .i64 PL, .int .i64 RG], .bool true]) (by simp [results, Tryz.results151, go_sem]) rfl ⟨rfl, ?_⟩
  repeat (first | (with_reducible exact Kp.refl _ _) | (with_reducible refine Kp.allocN ?_ _) | (with_reducible refine Kp.drewN' ?_ _) | (with_reducible refine Kp.setNew ?_ _ _ (by simp)))

theorem standsB_eq (bs : Bs) (n : Nat) : standsB bs n = (!(numAt bs 0 8 == 0) && (numAt bs 0 8 == numAt bs 248 8) && decide (1 ≤ numAt bs 8 8) && decide (numAt bs 8 8 ≤ 4611686018427387903) &&
  decide (8 ≤ numAt bs 20 4) && decide (numAt bs 20 4 ≤ 512) && decide (numAt bs 16 4 < numAt bs 20 4) && decide (numAt bs 20 4 + 10 ≤ n)) := rfl

theorem stands_b (v : Value) (bs : Bs) (n : Nat) (w : World) (hb : BytesAt w v bs) (hl : bs.length = 256) (hn : n ≤ 1900) :
    Calls Tryz.prog 151 #[v, .int .i64 n] w fun e w' => ∃ s t p r : Nat, e = .returned (.tuple #[.agg #[.int .u64 s, .int .u64 t, .int .i64 p, .int .i64 r], .bool (standsB bs n)]) ∧ (standsB bs n = true → s = numAt bs 0 8 ∧ t = numAt bs 8 8 ∧ p = numAt bs 16 4 ∧ r = numAt bs 20 4) ∧ Kp [] w w' := by
  have G0 : ∀ w', Kp [] w w' → Calls Tryz.prog 163 #[v] w' fun e w'' => e = .returned (.int .u64 (numAt bs 0 8)) ∧ w' = w'' := fun w' k => lg_tag v bs w' (hb.kp0 k) (by omega) (by omega)
  have G8 : ∀ w', Kp [] w w' → Calls Tryz.prog 164 #[v, .int .i64 8, .int .i64 8] w' fun e w'' => e = .returned (.int .u64 (numAt bs 8 8)) ∧ w' = w'' := fun w' k => lg_num 8 8 v bs w' (hb.kp0 k) (by simp) (by omega) (by omega)
  have G16 : ∀ w', Kp [] w w' → Calls Tryz.prog 164 #[v, .int .i64 16, .int .i64 4] w' fun e w'' => e = .returned (.int .u64 (numAt bs 16 4)) ∧ w' = w'' := fun w' k => lg_num 4 16 v bs w' (hb.kp0 k) (by simp) (by omega) (by omega)
  have G20 : ∀ w', Kp [] w w' → Calls Tryz.prog 164 #[v, .int .i64 20, .int .i64 4] w' fun e w'' => e = .returned (.int .u64 (numAt bs 20 4)) ∧ w' = w'' := fun w' k => lg_num 4 20 v bs w' (hb.kp0 k) (by simp) (by omega) (by omega)
  have G248 : ∀ w', Kp [] w w' → Calls Tryz.prog 164 #[v, .int .i64 248, .int .i64 8] w' fun e w'' => e = .returned (.int .u64 (numAt bs 248 8)) ∧ w' = w'' := fun w' k => lg_num 8 248 v bs w' (hb.kp0 k) (by simp) (by omega) (by omega)
  have hS := standsB_eq bs n
  have hPL : numAt bs 16 4 < 4294967296 := numAt_lt bs 16 4
  have hRG : numAt bs 20 4 < 4294967296 := numAt_lt bs 20 4
  generalize standsB bs n = SB at *
  generalize numAt bs 0 8 = S at *
  generalize numAt bs 248 8 = TL at *
  generalize numAt bs 8 8 = T at *
  generalize numAt bs 16 4 = PL at *
  generalize numAt bs 20 4 = RG at *
  have no : SB = false → ∀ {e : Ending} {w' : World}, (e = .returned (.tuple #[.agg #[.int .u64 0, .int .u64 0, .int .i64 0, .int .i64 0], .bool false]) ∧ Kp [] w w') → ∃ s t p r : Nat, e = .returned (.tuple #[.agg #[.int .u64 s, .int .u64 t, .int .i64 p, .int .i64 r], .bool SB]) ∧ (SB = true → s = S ∧ t = T ∧ p = PL ∧ r = RG) ∧ Kp [] w w' :=
    fun hf e w' h => ⟨0, 0, 0, 0, by rw [hf]; exact h.1, fun c => by rw [hf] at c; simp at c, h.2⟩
  by_cases h0 : S = 0
  · exact (stands_0 v n S TL T PL RG w hn hPL hRG h0 G0 G8 G16 G20 G248).mono fun e w' h => no (by rw [hS]; simp; omega) h
  by_cases h1 : S ≠ TL
  · exact (stands_1 v n S TL T PL RG w hn hPL hRG h0 h1 G0 G8 G16 G20 G248).mono fun e w' h => no (by rw [hS]; simp; omega) h
  by_cases h2 : T < 1
  · exact (stands_2 v n S TL T PL RG w hn hPL hRG h0 h1 h2 G0 G8 G16 G20 G248).mono fun e w' h => no (by rw [hS]; simp; omega) h
  by_cases h3 : 4611686018427387903 < T
  · exact (stands_3 v n S TL T PL RG w hn hPL hRG h0 h1 h2 h3 G0 G8 G16 G20 G248).mono fun e w' h => no (by rw [hS]; simp; omega) h
  by_cases h4 : RG < 8
  · exact (stands_4 v n S TL T PL RG w hn hPL hRG h0 h1 h2 h3 h4 G0 G8 G16 G20 G248).mono fun e w' h => no (by rw [hS]; simp; omega) h
  by_cases h5 : 512 < RG
  · exact (stands_5 v n S TL T PL RG w hn hPL hRG h0 h1 h2 h3 h4 h5 G0 G8 G16 G20 G248).mono fun e w' h => no (by rw [hS]; simp; omega) h
  by_cases h6 : RG ≤ PL
  · exact (stands_6 v n S TL T PL RG w hn hPL hRG h0 h1 h2 h3 h4 h5 h6 G0 G8 G16 G20 G248).mono fun e w' h => no (by rw [hS]; simp; omega) h
  by_cases h7 : (n : Int) - 2 - RG < 8
  · exact (stands_7 v n S TL T PL RG w hn hPL hRG h0 h1 h2 h3 h4 h5 h6 h7 G0 G8 G16 G20 G248).mono fun e w' h => no (by rw [hS]; simp; omega) h
  refine (stands_8 v n S TL T PL RG w hn hPL hRG h0 h1 h2 h3 h4 h5 h6 h7 G0 G8 G16 G20 G248).mono fun e w' h => ?_
  have hT : SB = true := by rw [hS]; simp; omega
  exact ⟨S, T, PL, RG, by rw [hT]; exact h.1, fun _ => ⟨rfl, rfl, rfl, rfl⟩, h.2⟩
end Go.Proofs.YtonkeialdfofcaaGreatDoor
