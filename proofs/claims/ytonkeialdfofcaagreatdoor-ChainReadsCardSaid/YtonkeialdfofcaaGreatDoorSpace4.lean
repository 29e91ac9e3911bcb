/-
  space: errors; takes and Take without room; Left, Taken, Free, Root.
-/
import Derived.Test.YtonkeialdfofcaaGreatDoorStep
import Derived.Test.YtonkeialdfofcaaGreatDoorAsSpace
namespace Go.Proofs.YtonkeialdfofcaaGreatDoor
open Go.RowKit Go

section
variable {w : World} {t n : Nat} {H : Nat → Bs} {F : List Nat}

theorem TxSys.laid (h : TxSys w t n H F) (hl : LaidOk w) : 0 ∉ F := by
  obtain ⟨l, bmt, al, T, f, p, bl, bm, bm', D, L, rfl, h2, h3, _⟩ := h
  intro c
  simp only [List.mem_cons, List.not_mem_nil, or_false] at c
  rcases c with e | e
  · obtain ⟨al2, h5⟩ := h3.lg
    have := h5.own
    rw [← e] at this
    have h6 := cell_of this 0 rfl
    unfold LaidOk at hl
    rw [hl] at h6
    simp at h6
  · obtain ⟨es, c, h5, _⟩ := h2.mp
    rw [← e] at h5
    unfold LaidOk World.cell? at hl
    simp [h5] at hl
theorem LaidOk.sys {w' : World} (hl : LaidOk w) (h : TxSys w t n H F) (k : Kp F w w') : LaidOk w' := hl.kp k (h.laid hl)

theorem space_bad (e : Int) (w : World) (he : e ≠ 0) : Calls Tryz.prog 162 #[.int .i64 e] w fun r w' => ∃ v, r = .returned v ∧ AsSpace.IsE w' v e ∧ Kp [] w w' := by
  have h : (e == 0) = false := beq_eq_false_iff_ne.2 he
  have HE := Lib.hid he
  clear he
  go_enter Tryz.func162, Tryz.ntmps162
  go_wp2
  go_ret
  refine ⟨_, rfl, .inr ⟨HE.out, _, _, rfl, heap_alloc2_new _ _ _, (Kp.alloc _ _).at (blk_alloc_new _ _) (by simp)⟩, (Kp.alloc _ _).and (Kp.alloc _ _)⟩

set_option maxHeartbeats 1000000 in
theorem space_takes_full (h : TxSys w t n H F) (hn : 1 < n) (hf : freeB (H 1) n = none) :
    Calls Tryz.prog 161 #[.pointer (some ⟨t, 0, none⟩)] w fun e w' => ∃ v, e = .returned (.tuple #[.int .i64 0, v]) ∧ AsSpace.IsE w' v 9 ∧ TxSys w' t n H F ∧ Kp F w w' := by
  have HS := Lib.hid h
  have hall : ∀ j, j < n → hasB (H 1) j = true := fun j hj => by
    unfold freeB at hf
    simpa using List.find?_eq_none.1 hf j (List.mem_range.2 hj)
  have HL := Lib.hid (h.len 1 hn)
  have HA := Lib.hid hall
  have hmin : min n 1984 = n := by have := h.hi; omega
  clear h hf hall
  go_enter Tryz.func161, Tryz.ntmps161
  go_wp2_with (go_at_call 47; refine (ts_read2 1 HS.out hn).mono ?_; rintro e w1 ⟨v1, rfl, ho, ht, hk⟩; obtain ⟨a1, n1, cp1, rfl⟩ := ho.bytes.shape; have HO := Lib.hid ho; have HT := Lib.hid ht; have HK := Lib.hid hk; clear ho ht hk)
  go_loopw [6] (fun x wr => ∃ k : Nat, x = .int .i64 k ∧ 2 ≤ k ∧ k ≤ max n 2 ∧ Kp [] w1 wr) (fun x _ => max n 2 - (intOf x).toNat)
  case atStart => exact ⟨2, rfl, by omega, by omega, Kp.refl _ _⟩
  case round =>
    obtain ⟨k, rfl, k1, k2, hkr⟩ := hrel
    have HKR := Lib.hid hkr
    clear hkr
    by_cases hlt : k < n
    · have HFK := Lib.hid (HA.out k hlt)
      go_wp2_with (first
        | (go_at_call 116; refine (space_homes (HT.out.sys HKR.out)).mono ?_; rintro e w2 ⟨rfl, q, rfl⟩; rw [hmin])
        | (go_at_call 115; refine (space_has _ _ k ((HO.out.bytes.kp0 HKR.out).kp0 (Kp.drewN _ _)) HL.out).mono ?_; rintro e w2 ⟨rfl, rfl⟩; rw [HFK.out]))
      refine ⟨⟨k + 1, by simp, by omega, by omega, HKR.out.and (Kp.drewN _ _)⟩, ?_⟩
      simp only [intOf]
      omega
    · go_wp2_with (first
        | (go_at_call 116; refine (space_homes (HT.out.sys HKR.out)).mono ?_; rintro e w2 ⟨rfl, q, rfl⟩; rw [hmin])
        | (go_at_call 162; refine (space_bad 9 _ (by decide)).mono ?_; rintro e w3 ⟨v3, rfl, he, hk3⟩))
      go_ret2
      have hk4 := (HKR.out.and (Kp.drewN _ _)).and hk3
      exact ⟨_, rfl, he, HT.out.sys hk4, HK.out.and (hk4.mono (by simp))⟩

set_option maxHeartbeats 1000000 in
theorem space_Take_full (h : TxSys w t n H F) (hn : 1 < n) (hf : freeB (H 1) n = none) (hl : LaidOk w) :
    Calls Tryz.prog 148 #[.pointer (some ⟨t, 0, none⟩)] w fun e w' => e = .returned (.tuple #[.int .i64 0, .int .i64 9]) ∧ TxSys w' t n H F ∧ Kp F w w' := by
  have HS := Lib.hid h
  have HF := Lib.hid hf
  have HL := Lib.hid hl
  clear h hf hl
  go_enter Tryz.func148, Tryz.ntmps148
  go_wp2_with (first
    | (go_at_call 161; refine (space_takes_full HS.out hn HF.out).mono ?_; rintro e w1 ⟨v, rfl, he, ht, hk⟩; have HE := Lib.hid he; have HT := Lib.hid ht; have HK := Lib.hid hk; obtain ⟨T0, x0, rfl⟩ := he.form (by decide); clear he ht hk)
    | (go_at_call 149; refine (AsSpace.code_ok _ 9 _ HE.out (HL.out.sys HS.out HK.out)).mono ?_; rintro e w2 ⟨rfl, hk2⟩))
  go_ret2
  exact ⟨rfl, HT.out.kp0 hk2, HK.out.and (hk2.mono (by simp))⟩

/-- How many homes are free. -/
def leftB (b : Bs) (n : Nat) : Nat := (List.range n).countP fun i => !hasB b i
theorem leftB_succ (b : Bs) (n : Nat) : leftB b (n + 1) = leftB b n + (if hasB b n then 0 else 1) := by
  unfold leftB
  rw [List.range_succ, List.countP_append]
  cases h : hasB b n <;> simp [h]
theorem leftB_le (b : Bs) (n : Nat) : leftB b n ≤ n := by
  unfold leftB
  have := List.countP_le_length (p := fun i => !hasB b i) (l := List.range n)
  simpa using this

set_option maxHeartbeats 1000000 in
theorem space_Left (h : TxSys w t n H F) (hn : 1 < n) :
    Calls Tryz.prog 62 #[.pointer (some ⟨t, 0, none⟩)] w fun e w' => e = .returned (.tuple #[.int .i64 (leftB (H 1) n : Nat), .int .i64 0]) ∧ TxSys w' t n H F ∧ Kp F w w' := by
  have HS := Lib.hid h
  have HL := Lib.hid (h.len 1 hn)
  have hmin : min n 1984 = n := by have := h.hi; omega
  have hhi := h.hi
  clear h
  go_enter Tryz.func62, Tryz.ntmps62
  go_wp2_with (first
    | (go_at_call 47; refine (ts_read2 1 HS.out hn).mono ?_; rintro e w1 ⟨v1, rfl, ho, ht, hk⟩; obtain ⟨a1, n1, cp1, rfl⟩ := ho.bytes.shape; have HO := Lib.hid ho; have HT := Lib.hid ht; have HK := Lib.hid hk; clear ho ht hk)
    | (go_at_call 116; refine (space_homes (HT.out.sys (Kp.refl _ _))).mono ?_; rintro e w2 ⟨rfl, q, rfl⟩; rw [hmin]))
  go_loopw [6, 18] (fun c x wr => ∃ k : Nat, x = .int .i64 k ∧ k ≤ n ∧ c = .int .i64 (leftB (H 1) k : Nat) ∧ Kp [] w1 wr) (fun _ x _ => n - (intOf x).toNat)
  case atStart => exact ⟨0, rfl, by omega, rfl, Kp.drewN _ _⟩
  case round =>
    obtain ⟨k, rfl, k1, rfl, hkr⟩ := hrel
    have HKR := Lib.hid hkr
    clear hkr
    have hle := leftB_le (H 1) k
    by_cases hlt : k < n
    · have hsc := leftB_succ (H 1) k
      cases hb : hasB (H 1) k with
      | true =>
        rw [hb, if_pos rfl] at hsc
        have HSC := Lib.hid hsc
        have HB := Lib.hid hb
        clear hsc hb
        generalize hc : leftB (H 1) k = c at *
        have HC := Lib.hid hc
        clear hc
        go_wp2_with (go_at_call 115; refine (space_has _ _ k (HO.out.bytes.kp0 HKR.out) HL.out).mono ?_; rintro e w2 ⟨rfl, rfl⟩; rw [HB.out])
        refine ⟨⟨k + 1, by simp, by omega, by rw [HSC.out]; simp, HKR.out⟩, ?_⟩
        simp only [intOf]; omega
      | false =>
        rw [hb, if_neg (by simp)] at hsc
        have HSC := Lib.hid hsc
        have HB := Lib.hid hb
        clear hsc hb
        generalize hc : leftB (H 1) k = c at *
        have HC := Lib.hid hc
        clear hc
        go_wp2_with (go_at_call 115; refine (space_has _ _ k (HO.out.bytes.kp0 HKR.out) HL.out).mono ?_; rintro e w2 ⟨rfl, rfl⟩; rw [HB.out])
        refine ⟨⟨k + 1, by simp, by omega, by rw [HSC.out]; simp, HKR.out⟩, ?_⟩
        simp only [intOf]; omega
    · have : k = n := by omega
      subst this
      go_wp2
      go_ret2
      exact ⟨rfl, HT.out.sys HKR.out, HK.out.and (HKR.out.mono (by simp))⟩

set_option maxHeartbeats 1000000 in
theorem space_Taken (i : Int) (h : TxSys w t n H F) (hn : 1 < n) :
    Calls Tryz.prog 61 #[.pointer (some ⟨t, 0, none⟩), .int .i64 i] w fun e w' => e = .returned (if 0 ≤ i ∧ i < n then .tuple #[.bool (hasB (H 1) i.toNat), .int .i64 0] else .tuple #[.bool false, .int .i64 1]) ∧ TxSys w' t n H F ∧ Kp F w w' := by
  have HS := Lib.hid h
  have HL := Lib.hid (h.len 1 hn)
  clear h
  by_cases h0 : i < 0
  · have e : ¬ (0 ≤ i ∧ i < n) := by omega
    rw [if_neg e]
    clear e
    go_enter Tryz.func61, Tryz.ntmps61
    go_wp2_with (go_at_call 47; refine (ts_read2 1 HS.out hn).mono ?_; rintro e w1 ⟨v1, rfl, ho, ht, hk⟩; obtain ⟨a1, n1, cp1, rfl⟩ := ho.bytes.shape; have HO := Lib.hid ho; have HT := Lib.hid ht; have HK := Lib.hid hk; clear ho ht hk)
    go_ret2
    exact ⟨rfl, HT.out.sys (Kp.refl _ _), HK.out⟩
  · by_cases h1 : (n : Int) ≤ i
    · have e : ¬ (0 ≤ i ∧ i < n) := by omega
      rw [if_neg e]
      clear e
      go_enter Tryz.func61, Tryz.ntmps61
      go_wp2_with (first
        | (go_at_call 47; refine (ts_read2 1 HS.out hn).mono ?_; rintro e w1 ⟨v1, rfl, ho, ht, hk⟩; obtain ⟨a1, n1, cp1, rfl⟩ := ho.bytes.shape; have HO := Lib.hid ho; have HT := Lib.hid ht; have HK := Lib.hid hk; clear ho ht hk)
        | (go_at_call 53; refine (ts_homes (HT.out.sys (Kp.refl _ _))).mono ?_; rintro e w2 ⟨rfl, q, rfl⟩))
      go_ret2
      exact ⟨rfl, HT.out.sys (Kp.drewN _ _), HK.out.and ((Kp.drewN _ _).mono (by simp))⟩
    · obtain ⟨k, rfl⟩ : ∃ k : Nat, i = k := ⟨i.toNat, by omega⟩
      have e : 0 ≤ (k : Int) ∧ (k : Int) < n := by omega
      rw [if_pos e, Int.toNat_natCast]
      have h1' : ¬ n ≤ k := by omega
      clear e h0
      generalize hB : hasB (H 1) k = B
      have HB := Lib.hid hB
      clear hB
      go_enter Tryz.func61, Tryz.ntmps61
      go_wp2_with (first
        | (go_at_call 47; refine (ts_read2 1 HS.out hn).mono ?_; rintro e w1 ⟨v1, rfl, ho, ht, hk⟩; obtain ⟨a1, n1, cp1, rfl⟩ := ho.bytes.shape; have HO := Lib.hid ho; have HT := Lib.hid ht; have HK := Lib.hid hk; clear ho ht hk)
        | (go_at_call 53; refine (ts_homes (HT.out.sys (Kp.refl _ _))).mono ?_; rintro e w2 ⟨rfl, q, rfl⟩)
        | (go_at_call 115; refine (space_has _ _ k (HO.out.bytes.kp0 (Kp.drewN _ _)) HL.out).mono ?_; rintro e w2 ⟨rfl, rfl⟩; rw [HB.out]))
      go_ret2
      exact ⟨rfl, HT.out.sys (Kp.drewN _ _), HK.out.and ((Kp.drewN _ _).mono (by simp))⟩

theorem code_nil_sp (w : World) : Calls Tryz.prog 149 #[.nilIface] w fun e w' => e = .returned (.int .i64 0) ∧ Kp [] w w' := by
  go_enter Tryz.func149, Tryz.ntmps149
  go_wp2_with (go_at_call 127; refine (as_nil _ _).mono ?_; rintro e w' ⟨rfl, rfl⟩)
  go_ret
  exact ⟨rfl, Kp.alloc _ _⟩

set_option maxHeartbeats 2000000 in
theorem space_Free_ok (i : Nat) (h : TxSys w t n H F) (hn : 1 < n) (h2 : 2 ≤ i) (hi : i < n) (hb : hasB (H 1) i = true) :
    Calls Tryz.prog 117 #[.pointer (some ⟨t, 0, none⟩), .int .i64 i] w fun e w' => e = .returned (.int .i64 0) ∧ TxSys w' t n (fun j => if j = 1 then turnB (H 1) i else H j) F ∧ Kp F w w' := by
  have HS := Lib.hid h
  have HL := Lib.hid (h.len 1 hn)
  have HB := Lib.hid hb
  have hmin : min n 1984 = n := by have := h.hi; omega
  have hhi := h.hi
  have h1' : ¬ n ≤ i := by omega
  clear h hb
  go_enter Tryz.func117, Tryz.ntmps117
  go_wp2_with (first
    | (go_at_call 47; refine (ts_read2 1 HS.out hn).mono ?_; rintro e w1 ⟨v1, rfl, ho, ht, hk⟩; obtain ⟨a1, n1, cp1, rfl⟩ := ho.bytes.shape; have HO := Lib.hid ho; have HT := Lib.hid ht; have HK := Lib.hid hk; clear ho ht hk)
    | (go_at_call 116; refine (space_homes (HT.out.sys (Kp.refl _ _))).mono ?_; rintro e w2 ⟨rfl, q, rfl⟩; rw [hmin])
    | (go_at_call 115; refine (space_has _ _ i (HO.out.bytes.kp0 (Kp.drewN _ _)) HL.out).mono ?_; rintro e w2 ⟨rfl, rfl⟩; rw [HB.out])
    | (go_at_call 150; refine (space_turns i _ _ _ (HO.out.kp0 (Kp.drewN _ _)) (HT.out.kp0 (Kp.drewN _ _)) HL.out h2 (by omega) hn).mono ?_; rintro e w3 ⟨rfl, ht3, S, hS, hk3⟩; have HT3 := Lib.hid ht3; have HS3 := Lib.hid hS; have HK3 := Lib.hid hk3; clear ht3 hS hk3)
    | (go_at_call 149; refine (code_nil_sp _).mono ?_; rintro e w4 ⟨rfl, hk4⟩))
  go_ret
  refine ⟨rfl, HT3.out.kp0 hk4, ((HK.out.and ((Kp.drewN _ _).mono (by simp))).trans HK3.out HS3.out).and (hk4.mono (by simp))⟩

set_option maxHeartbeats 2000000 in
theorem space_Free_no (i : Int) (h : TxSys w t n H F) (hn : 1 < n) (hb : i < 2 ∨ (n : Int) ≤ i ∨ hasB (H 1) i.toNat = false) :
    Calls Tryz.prog 117 #[.pointer (some ⟨t, 0, none⟩), .int .i64 i] w fun e w' => e = .returned (.int .i64 1) ∧ TxSys w' t n H F ∧ Kp F w w' := by
  have HS := Lib.hid h
  have HL := Lib.hid (h.len 1 hn)
  have hmin : min n 1984 = n := by have := h.hi; omega
  have hhi := h.hi
  clear h
  by_cases h0 : i < 2
  · clear hb
    go_enter Tryz.func117, Tryz.ntmps117
    go_wp2_with (go_at_call 47; refine (ts_read2 1 HS.out hn).mono ?_; rintro e w1 ⟨v1, rfl, ho, ht, hk⟩; obtain ⟨a1, n1, cp1, rfl⟩ := ho.bytes.shape; have HO := Lib.hid ho; have HT := Lib.hid ht; have HK := Lib.hid hk; clear ho ht hk)
    go_ret
    exact ⟨rfl, HT.out.sys (Kp.refl _ _), HK.out⟩
  · by_cases h1 : (n : Int) ≤ i
    · clear hb
      go_enter Tryz.func117, Tryz.ntmps117
      go_wp2_with (first
        | (go_at_call 47; refine (ts_read2 1 HS.out hn).mono ?_; rintro e w1 ⟨v1, rfl, ho, ht, hk⟩; obtain ⟨a1, n1, cp1, rfl⟩ := ho.bytes.shape; have HO := Lib.hid ho; have HT := Lib.hid ht; have HK := Lib.hid hk; clear ho ht hk)
        | (go_at_call 116; refine (space_homes (HT.out.sys (Kp.refl _ _))).mono ?_; rintro e w2 ⟨rfl, q, rfl⟩; rw [hmin]))
      go_ret
      exact ⟨rfl, HT.out.sys (Kp.drewN _ _), HK.out.and ((Kp.drewN _ _).mono (by simp))⟩
    · obtain ⟨k, rfl⟩ : ∃ k : Nat, i = k := ⟨i.toNat, by omega⟩
      have hb' : hasB (H 1) k = false := by
        rcases hb with hb | hb | hb
        · omega
        · omega
        · exact hb
      have HB := Lib.hid hb'
      have h1' : ¬ n ≤ k := by omega
      clear hb hb'
      go_enter Tryz.func117, Tryz.ntmps117
      go_wp2_with (first
        | (go_at_call 47; refine (ts_read2 1 HS.out hn).mono ?_; rintro e w1 ⟨v1, rfl, ho, ht, hk⟩; obtain ⟨a1, n1, cp1, rfl⟩ := ho.bytes.shape; have HO := Lib.hid ho; have HT := Lib.hid ht; have HK := Lib.hid hk; clear ho ht hk)
        | (go_at_call 116; refine (space_homes (HT.out.sys (Kp.refl _ _))).mono ?_; rintro e w2 ⟨rfl, q, rfl⟩; rw [hmin])
        | (go_at_call 115; refine (space_has _ _ k (HO.out.bytes.kp0 (Kp.drewN _ _)) HL.out).mono ?_; rintro e w2 ⟨rfl, rfl⟩; rw [HB.out]))
      · exfalso; omega
      go_ret
      exact ⟨rfl, HT.out.sys (Kp.drewN _ _), HK.out.and ((Kp.drewN _ _).mono (by simp))⟩
end
end Go.Proofs.YtonkeialdfofcaaGreatDoor
