/-
  log.Format: its contract.
-/
import Derived.Test.YtonkeialdfofcaaGreatDoorLg3
namespace Go.Proofs.YtonkeialdfofcaaGreatDoor
open Go.RowKit Go

/-- What 'fill' does: k sectors from i on. -/
def fillD : Nat → Dk → Int → Bs → Int × Dk
  | 0, D, _, _ => (0, D)
  | k + 1, D, i, b => if (D.write i b).1 = 0 then fillD k (D.write i b).2 (i + 1) b else D.write i b

section
variable {w : World} {p bl bm : Nat} {D : Dk}

theorem IsDk.noB2 (h : IsDk w p bl bm D) : NoB w [p, bm] := fun k hk => h.noB k (by simp at hk ⊢; rcases hk with h | h <;> simp [h])

set_option maxHeartbeats 1000000 in
theorem lg_fill (p bl bm : Nat) (D : Dk) (a b : Nat) (v : Value) (bs : Bs) (w : World) (h : IsDk w p bl bm D) (hb : BytesAt w v bs) (hab : a ≤ b) (hb2 : b ≤ 1000000) :
    Calls Tryz.prog 70 #[.pointer (some ⟨p, 0, none⟩), .int .i64 a, .int .i64 b, v] w fun e w' => e = .returned (.int .i64 (fillD (b - a) D a bs).1) ∧ IsDk w' p bl bm (fillD (b - a) D a bs).2 ∧ Kp [p, bm] w w' := by
  obtain ⟨sa, sn, sc, rfl⟩ := hb.shape
  have HD := Lib.hid h
  have HB := Lib.hid hb
  have HN := Lib.hid h.noB2
  clear h hb
  obtain ⟨R, hR⟩ : ∃ R, R = fillD (b - a) D a bs := ⟨_, rfl⟩
  rw [← hR]
  have HR := Lib.hid hR
  clear hR
  go_enter Tryz.func70, Tryz.ntmps70
  go_wp2
  go_loopw [9] (fun i wr => ∃ (j : Nat) (D' : Dk), a ≤ j ∧ j ≤ b ∧ i = .int .i64 j ∧ R = fillD (b - j) D' j bs ∧ IsDk wr p bl bm D' ∧ Kp [p, bm] w wr) (fun i _ => b - (intOf i).toNat)
  case atStart => exact ⟨a, D, by omega, by omega, rfl, HR.out, HD.out, Kp.refl _ _⟩
  case round =>
    obtain ⟨j, D', hj1, hj2, rfl, hR', hd', hkr⟩ := hrel
    have HR' := Lib.hid hR'
    have HD' := Lib.hid hd'
    have HK := Lib.hid hkr
    have HB' := Lib.hid (HB.out.kp hkr HN.out)
    clear hR' hd' hkr
    by_cases hlt : j < b
    · have e1 : b - j = (b - (j + 1)) + 1 := by omega
      by_cases he : (D'.write j bs).1 = 0
      · have hR2 : R = fillD (b - (j + 1)) (D'.write j bs).2 ((j + 1 : Nat) : Int) bs := by
          rw [HR'.out, e1, fillD, if_pos he]; rfl
        have HR2 := Lib.hid hR2
        have HE := Lib.hid he
        clear hR2 e1 he
        go_wp2_with (go_at_call 74; refine (dk_write p bl bm D' j _ bs _ HD'.out HB'.out).mono ?_; rintro e w1 ⟨rfl, hd1, hk1⟩; rw [HE.out])
        go_roundw
        case rel => exact ⟨j + 1, _, by omega, by omega, by go_num, HR2.out, hd1, HK.out.and hk1⟩
        case measure => simp [intOf]; omega
      · have hw : (((D'.write j bs).1 : Int) != 0) = true := by rw [bne_iff_ne]; exact he
        have hR2 : R = D'.write j bs := by rw [HR'.out, e1, fillD, if_neg he]
        have HR2 := Lib.hid hR2
        clear hR2 e1 he
        go_wp2_with (go_at_call 74; refine (dk_write p bl bm D' j _ bs _ HD'.out HB'.out).mono ?_; rintro e w1 ⟨rfl, hd1, hk1⟩)
        go_ret
        exact ⟨by rw [HR2.out]; rfl, by rw [HR2.out]; exact hd1, HK.out.and hk1⟩
    · have e1 : b - j = 0 := by omega
      have hR2 : R = (0, D') := by rw [HR'.out, e1]; rfl
      have HR2 := Lib.hid hR2
      clear hR2 e1
      go_wp2
      go_ret
      exact ⟨by rw [HR2.out]; rfl, by rw [HR2.out]; exact HD'.out, HK.out⟩
end
end Go.Proofs.YtonkeialdfofcaaGreatDoor
