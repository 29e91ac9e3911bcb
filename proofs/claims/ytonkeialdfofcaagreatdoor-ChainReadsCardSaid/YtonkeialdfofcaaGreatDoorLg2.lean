/-
  The log's small questions: their contracts.
-/
import Derived.Test.YtonkeialdfofcaaGreatDoorLg
namespace Go.Proofs.YtonkeialdfofcaaGreatDoor
open Go.RowKit Go

namespace Lg
def homes (L : Lg) (D : Dk) : Int := D.len - 2 - L.ring
def may (L : Lg) (D : Dk) : Int := if D.lives ≠ L.lives ∨ L.done then 12 else 0
end Lg

section
variable {w : World} {l p bl bm bm' : Nat} {L : Lg} {D : Dk} {al : List (Int × Value)}

theorem lg_none (h : IsLg w l p bm L) :
    Calls Tryz.prog 106 #[.pointer (some ⟨l, 0, none⟩)] w fun r w' => r = .returned (.bool false) ∧ w = w' := by
  have c0 : w.cell? ⟨l, 0, none⟩ = some (.pointer (some ⟨p, 0, none⟩)) := by obtain ⟨al, h⟩ := h; exact cell_of h.own 0 rfl
  clear h
  go_enter Tryz.func106, Tryz.ntmps106
  go_wp2
  go_ret
  exact ⟨rfl, rfl⟩

theorem dk_lives (p bl bm : Nat) (D : Dk) (w : World) (h : IsDk w p bl bm D) :
    Calls Tryz.prog 76 #[.pointer (some ⟨p, 0, none⟩)] w fun e w' => e = .returned (.int .i64 D.lives) ∧ w = w' := by
  obtain ⟨cs, al, vt, h⟩ := h
  have c9 := cell_of h.own 9 (v := .int .i64 D.lives) rfl
  clear h
  go_enter Tryz.func76, Tryz.ntmps76
  go_wp2
  go_ret
  exact ⟨rfl, rfl⟩

theorem Kp.drewN (w : World) (n : Nat) : Kp [] w (w.drewN n) := ⟨rfl, rfl, rfl, Nat.le_refl _, fun _ _ _ => rfl⟩

theorem quiet_same {P : Program} {f : FuncId} {args : Array Value} {w : World} {n : Nat} {v : Value}
    (h : Calls P f args (w.drewN n) fun e w' => e = .returned v ∧ w.drewN n = w') : Calls P f args (w.drewN n) fun e w'' => e = .returned v ∧ ∃ m, w'' = w.drewN m :=
  h.mono fun _ _ ⟨he, hm⟩ => ⟨he, n, hm.symm⟩

set_option maxHeartbeats 400000 in
theorem lg_homes (h : IsLg w l p bm' L) (hd : IsDk w p bl bm D) :
    Calls Tryz.prog 83 #[.pointer (some ⟨l, 0, none⟩)] w fun r w' => r = .returned (.int .i64 (L.homes D)) ∧ ∃ n, w' = w.drewN n := by
  have HD := Lib.hid hd
  have b1 := hd.ok.hi
  have b2 : L.ring ≤ 1000000 := by obtain ⟨al, h⟩ := h; exact h.rhi
  have c0 : w.cell? ⟨l, 0, none⟩ = some (.pointer (some ⟨p, 0, none⟩)) := by obtain ⟨al, h⟩ := h; exact cell_of h.own 0 rfl
  have c6 : w.cell? ⟨l, 6, none⟩ = some (.int .i64 L.ring) := by obtain ⟨al, h⟩ := h; exact cell_of h.own 6 rfl
  have e : L.homes D = (D.len : Int) - 2 - L.ring := rfl
  have b3 : D.len ≤ 1900 := b1
  have HE := Lib.hid e
  clear h hd e b1
  go_enter Tryz.func83, Tryz.ntmps83
  go_wp2
  go_quiet ((go_at_call 68; exact quiet_same (dk_len p bl bm D _ (HD.out.kp0 (Kp.drewN _ _)))))
  go_wp2
  go_ret
  exact ⟨by rw [HE.out]; rfl, _, rfl⟩

set_option maxHeartbeats 1000000 in
theorem lg_may (h : IsLg w l p bm' L) (hd : IsDk w p bl bm D) :
    Calls Tryz.prog 79 #[.pointer (some ⟨l, 0, none⟩)] w fun r w' => r = .returned (.int .i64 (L.may D)) ∧ ∃ n, w' = w.drewN n := by
  have HL := Lib.hid h
  have HD := Lib.hid hd
  have c0 : w.cell? ⟨l, 0, none⟩ = some (.pointer (some ⟨p, 0, none⟩)) := by obtain ⟨al, h⟩ := h; exact cell_of h.own 0 rfl
  have c1 : w.cell? ⟨l, 1, none⟩ = some (.int .i64 L.lives) := by obtain ⟨al, h⟩ := h; exact cell_of h.own 1 rfl
  have c2 : w.cell? ⟨l, 2, none⟩ = some (.bool L.done) := by obtain ⟨al, h⟩ := h; exact cell_of h.own 2 rfl
  clear h hd
  by_cases hv : D.lives = L.lives
  · have hb : (D.lives != L.lives) = false := by simp [hv]
    have HV := Lib.hid hv
    clear hv
    cases hdn : L.done with
    | true =>
      rw [hdn] at c2
      have e : L.may D = 12 := by unfold Lg.may; simp [hdn]
      have HE := Lib.hid e
      clear e hdn
      go_enter Tryz.func79, Tryz.ntmps79
      go_wp2_with (go_at_call 106; refine (lg_none HL.out).mono ?_; rintro e w' ⟨rfl, rfl⟩)
      go_quiet ((go_at_call 76; exact quiet_same (dk_lives p bl bm D _ (HD.out.kp0 (Kp.drewN _ _)))))
      go_wp2
      go_ret
      exact ⟨by rw [HE.out]; rfl, _, rfl⟩
    | false =>
      rw [hdn] at c2
      have e : L.may D = 0 := by unfold Lg.may; simp [hdn, HV.out]
      have HE := Lib.hid e
      clear e hdn
      go_enter Tryz.func79, Tryz.ntmps79
      go_wp2_with (go_at_call 106; refine (lg_none HL.out).mono ?_; rintro e w' ⟨rfl, rfl⟩)
      go_quiet ((go_at_call 76; exact quiet_same (dk_lives p bl bm D _ (HD.out.kp0 (Kp.drewN _ _)))))
      go_wp2
      go_ret
      exact ⟨by rw [HE.out]; rfl, _, rfl⟩
  · have hb : (D.lives != L.lives) = true := by simpa using hv
    have e : L.may D = 12 := by unfold Lg.may; simp [hv]
    have HE := Lib.hid e
    clear e hv
    go_enter Tryz.func79, Tryz.ntmps79
    go_wp2_with (go_at_call 106; refine (lg_none HL.out).mono ?_; rintro e w' ⟨rfl, rfl⟩)
    go_quiet ((go_at_call 76; exact quiet_same (dk_lives p bl bm D _ (HD.out.kp0 (Kp.drewN _ _)))))
    go_wp2
    go_ret
    exact ⟨by rw [HE.out]; rfl, _, rfl⟩

theorem lg_Homes (h : IsLg w l p bm' L) (hd : IsDk w p bl bm D) :
    Calls Tryz.prog 40 #[.pointer (some ⟨l, 0, none⟩)] w fun r w' => r = .returned (.int .i64 (L.homes D)) ∧ ∃ n, w' = w.drewN n := by
  have HL := Lib.hid h
  have HD := Lib.hid hd
  clear h hd
  go_enter Tryz.func40, Tryz.ntmps40
  go_wp2_with (first
    | (go_at_call 106; refine (lg_none HL.out).mono ?_; rintro e w' ⟨rfl, rfl⟩)
    | (go_at_call 83; refine (lg_homes HL.out HD.out).mono ?_; rintro e w' ⟨rfl, n, rfl⟩))
  go_ret
  exact ⟨rfl, _, rfl⟩

theorem lg_turn (h : IsLg w l p bm' L) :
    Calls Tryz.prog 41 #[.pointer (some ⟨l, 0, none⟩)] w fun r w' => r = .returned (.int .u64 L.turn) ∧ w = w' := by
  have HL := Lib.hid h
  have c4 : w.cell? ⟨l, 4, none⟩ = some (.int .u64 L.turn) := by obtain ⟨al, h⟩ := h; exact cell_of h.own 4 rfl
  clear h
  go_enter Tryz.func41, Tryz.ntmps41
  go_wp2_with (go_at_call 106; refine (lg_none HL.out).mono ?_; rintro e w' ⟨rfl, rfl⟩)
  go_ret
  exact ⟨rfl, rfl⟩

theorem lg_free (h : IsLg w l p bm' L) :
    Calls Tryz.prog 67 #[.pointer (some ⟨l, 0, none⟩)] w fun r w' => r = .returned (.int .i64 L.free) ∧ w = w' := by
  have HL := Lib.hid h
  have c7 : w.cell? ⟨l, 7, none⟩ = some (.int .i64 L.free) := by obtain ⟨al, h⟩ := h; exact cell_of h.own 7 rfl
  clear h
  go_enter Tryz.func67, Tryz.ntmps67
  go_wp2_with (go_at_call 106; refine (lg_none HL.out).mono ?_; rintro e w' ⟨rfl, rfl⟩)
  go_ret
  exact ⟨rfl, rfl⟩

theorem lg_home (h : IsLg w l p bm' L) (i : Int) (h0 : -1000000000 ≤ i) (h1 : i ≤ 1000000000) :
    Calls Tryz.prog 85 #[.pointer (some ⟨l, 0, none⟩), .int .i64 i] w fun r w' => r = .returned (.int .i64 (2 + L.ring + i)) ∧ w = w' := by
  have c6 : w.cell? ⟨l, 6, none⟩ = some (.int .i64 L.ring) := by obtain ⟨al, h⟩ := h; exact cell_of h.own 6 rfl
  have b2 : L.ring ≤ 1000000 := by obtain ⟨al, h⟩ := h; exact h.rhi
  clear h
  go_enter Tryz.func85, Tryz.ntmps85
  go_wp2
  go_ret
  exact ⟨rfl, rfl⟩

theorem lg_at (h : IsLg w l p bm' L) (i : Nat) (h1 : i ≤ 2000000000) (b1 : 1 ≤ L.ring) :
    Calls Tryz.prog 130 #[.pointer (some ⟨l, 0, none⟩), .int .i64 i] w fun r w' => r = .returned (.int .i64 ((2 + i % L.ring : Nat) : Int)) ∧ w = w' := by
  have c6 : w.cell? ⟨l, 6, none⟩ = some (.int .i64 L.ring) := by obtain ⟨al, h⟩ := h; exact cell_of h.own 6 rfl
  have b2 : L.ring ≤ 1000000 := by obtain ⟨al, h⟩ := h; exact h.rhi
  have hz : ((L.ring : Int) == 0) = false := beq_eq_false_iff_ne.2 (by omega)
  have hm : (i : Int) % (L.ring : Int) < L.ring := Int.emod_lt_of_pos _ (by omega)
  have hm0 : 0 ≤ (i : Int) % (L.ring : Int) := Int.emod_nonneg _ (by omega)
  clear h
  go_enter Tryz.func130, Tryz.ntmps130
  go_wp2
  go_ret
  exact ⟨by simp, rfl⟩
end
end Go.Proofs.YtonkeialdfofcaaGreatDoor
