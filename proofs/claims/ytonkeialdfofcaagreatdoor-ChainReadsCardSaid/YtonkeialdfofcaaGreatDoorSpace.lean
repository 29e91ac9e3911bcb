/-
  space.Format, scriptorylaw21.New; a home's bit: space.has, space.turns.
-/
import Derived.Test.YtonkeialdfofcaaGreatDoorSys
namespace Go.Proofs.YtonkeialdfofcaaGreatDoor
open Go.RowKit Go

section
variable {w : World} {t n : Nat} {H : Nat → Bs} {F : List Nat}

theorem run_make248 (w : World) : (Instr.makeSlice 30 (.int .i64 248) (.int .i64 248)).run Tryz.prog w = .ok (.slice (some ⟨w.heap.size, 0, none⟩) 248 248) (w.alloc (.cells (zN 248) 5)) := run_makeN 248 w (by decide)

/-- The second home of a fresh store: two homes are taken. -/
def bitsB : Bs := 3 :: zeros 247
theorem length_bitsB : bitsB.length = 248 := by simp [bitsB, length_zeros]
theorem set0_at {w : World} {b n : Nat} {x : UInt8} (h : w.heap[b]? = some (.cells ((zN (n + 1)).setIfInBounds 0 (bv x)) 5 (0, 0))) : BytesAt w (.slice (some ⟨b, 0, none⟩) (n + 1) (n + 1)) (x :: zeros n) := by
  have e : (x :: zeros n).length = n + 1 := by simp [length_zeros]
  refine .inr ⟨b, 0, n + 1, _, (0, 0), by rw [e], by rw [e]; exact Nat.le_refl _, h, by simp [size_zN], fun i hi => ?_⟩
  rw [e] at hi
  rcases i with _ | i
  · simp [u8s, size_zN]
  · have : i < n := by omega
    simp [u8s, bv, zN, zeros, this]
theorem zN_zero (n : Nat) : (zN (n + 1))[0]? = some (.int .u8 0) := by simp [zN, u8s, zeros, bv]
theorem bits_at {w : World} {b : Nat} (h : w.heap[b]? = some (.cells ((zN 248).setIfInBounds 0 (.int .u8 3)) 5 (0, 0))) : BytesAt w (.slice (some ⟨b, 0, none⟩) 248 248) bitsB := set0_at (n := 247) h

set_option maxHeartbeats 1000000 in
theorem space_format (h : TxSys w t n H F) (h1 : 1 < n) :
    Calls Tryz.prog 111 #[.pointer (some ⟨t, 0, none⟩)] w fun e w' => e = .returned (.int .i64 0) ∧ TxSys w' t n (fun j => if j = 1 then bitsB else if j = 0 then rootB 0 1 else H j) F ∧ Kp F w w' := by
  have HS := Lib.hid h
  have H1 := Lib.hid h1
  have hmk := run_make248
  obtain ⟨Z, hZ⟩ : ∃ Z, Z = zN 248 := ⟨_, rfl⟩
  rw [← hZ] at hmk
  have z0 : Z[0]? = some (.int .u8 0) := hZ ▸ zN_zero 247
  have HZ := Lib.hid hZ
  clear h h1 hZ
  go_enter Tryz.func111, Tryz.ntmps111
  go_wp2_with (first
    | (go_at_call 145; refine (space_setRoot 0 1 HS.out (by decide) (by decide)).mono ?_; rintro e w1 ⟨rfl, ht, hk⟩; have HT := Lib.hid ht; have HK := Lib.hid hk; have c0 := cell_of (blk_alloc_new w1 (.cells Z 5)) 0 (v := .int .u8 0) z0; have f0 := free_of (blk_alloc_new w1 (.cells Z 5)) 0; clear ht hk)
    | (go_at_call 45;
       refine (ts_write 1 _ _ (HT.out.kp0 (Kp.alloc _ _)) H1.out (bits_at (by rw [← HZ.out]; exact blk_alloc_new _ _)) length_bitsB).mono ?_;
       rintro e w2 ⟨rfl, ht2, hk2⟩))
  go_ret
  exact ⟨rfl, ht2, (HK.out.and ((Kp.alloc _ _).mono (by simp))).and hk2⟩

theorem begun_sys {w w' : World} {l n p bl bm bm' t bmt : Nat} {f : Nat → Bs} {D : Dk} {L : Lg} (hl : LgS w l n f p bl bm bm' D L) (ht : TxAt w' t l bmt false [] (List.replicate n none)) (hb : w.heap.size ≤ bmt) (hk : Kp [] w w') : TxSys w' t n f [l, bmt] := by
  have h2 : bm < w.heap.size := by obtain ⟨cs, al, vt, h⟩ := hl.dk; exact h.mp.lt
  have h3 : bm' < w.heap.size := by obtain ⟨al, h⟩ := hl.lg; exact h.mp.lt
  refine ⟨l, bmt, [], _, f, p, bl, bm, bm', D, L, rfl, ht, hl.kp0 hk, by omega, by omega, by simp, fun i hi => ?_⟩
  simp [txH, List.getD, hi]

/-- The homes of a fresh store. -/
def freshH (i : Nat) : Bs := if i = 1 then bitsB else if i = 0 then rootB 0 1 else zeros 248

set_option maxHeartbeats 1000000 in
theorem law21_new (m : Nat) (w : World) (h1 : 34 ≤ m) (h2 : m ≤ 1900) :
    Calls Tryz.prog 57 #[.int .i64 m] w fun e w' => ∃ t F, e = .returned (.pointer (some ⟨t, 0, none⟩)) ∧ TxSys w' t (m - 26) freshH F ∧ (∀ x ∈ F, w.heap.size ≤ x) ∧ Kp [] w w' := by
  have H1 := Lib.hid h1
  have H2 := Lib.hid h2
  clear h1 h2
  go_enter Tryz.func57, Tryz.ntmps57
  go_wp2_with (first
    | (go_at_call 43; refine (law19_new m _ H1.out H2.out).mono ?_; rintro e w1 ⟨p, bl, bm, l, bm', D, rfl, hd, ha, hl, hne, hl0, hk⟩; have HL := Lib.hid (new_lgs hd ha hl hne H1.out H2.out); have HK := Lib.hid hk; clear hd ha hl hne hk)
    | (go_at_call 44; refine (tx_begin l _ (m - 26)).mono ?_; rintro e w2 ⟨t, bmt, rfl, ht, hb1, hb2, hk⟩; have HT := Lib.hid ht; have HK2 := Lib.hid hk; have HB := Lib.hid hb2; have HL0 := Lib.hid hl0; clear ht hk hb1 hb2)
    | (go_at_call 111; refine (space_format (begun_sys HL.out HT.out HB.out HK2.out) (by have := H1.out; omega)).mono ?_; rintro e w3 ⟨rfl, ht3, hk3⟩; have HT3 := Lib.hid ht3; have HK3 := Lib.hid hk3; clear ht3 hk3))
  go_ret
  have hF : ∀ x ∈ [l, bmt], w.heap.size ≤ x := fun x hx => by
    have := HL0.out
    have := HB.out
    have := HK.out.size
    simp only [List.mem_cons, List.not_mem_nil, or_false] at hx
    omega
  exact ⟨t, _, rfl, HT3.out, hF, (HK.out.and HK2.out).trans HK3.out (fun x hx => .inr (hF x hx))⟩

end
end Go.Proofs.YtonkeialdfofcaaGreatDoor
