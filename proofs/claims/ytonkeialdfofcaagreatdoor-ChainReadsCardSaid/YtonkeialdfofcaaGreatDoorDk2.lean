/-
  The disk's Read, Write, Arm, and its small questions: their contracts.
-/
import Derived.Test.YtonkeialdfofcaaGreatDoorDk
import Derived.Deep.RegionWith
import Derived.Deep.RegionHeld3
namespace Go.Proofs.YtonkeialdfofcaaGreatDoor
open Go.RowKit Go
section
variable {w : World} {p bl bm : Nat} {D : Dk} {cs : Array Value} {al : List (Int × Value)} {vt : Value}

theorem zero30 (w : World) : (zeroValue 30).run Tryz.prog w = .ok (.slice none 0 0) w := by kernel_rfl

theorem sec_len {D : Dk} (h : D.Ok) (i : Nat) (hi : i < D.lasts.length) : (D.sec i).length = 256 := by
  unfold Dk.sec
  split
  · rename_i b hb
    refine h.ws b ?_
    have : D.waits[i]? = some (some b) := by
      have hi' : i < D.waits.length := by rw [h.same]; exact hi
      simp only [List.getD, List.getElem?_eq_getElem hi', Option.getD_some] at hb
      rw [List.getElem?_eq_getElem hi', hb]
    exact List.mem_of_getElem? this
  · rename_i hb
    simp only [List.getD, List.getElem?_eq_getElem hi, Option.getD_some]
    exact h.ls _ (List.getElem_mem hi)

set_option maxHeartbeats 1000000 in
theorem dk_read (p bl bm : Nat) (D : Dk) (i : Int) (w : World) (h : IsDk w p bl bm D) :
    Calls Tryz.prog 102 #[.pointer (some ⟨p, 0, none⟩), .int .i64 i] w fun e w' => ∃ v, e = .returned (.tuple #[v, .int .i64 (D.may i)]) ∧ (D.may i ≠ 0 → v = .slice none 0 0) ∧ (D.may i = 0 → OwnB w' w.heap.size v (D.sec i.toNat)) ∧ Kp [] w w' := by
  have hd := Lib.hid h
  obtain ⟨cs, al, vt, h⟩ := h
  have c0 := cell_of h.own 0 (v := .slice (some ⟨bl, 0, none⟩) D.lasts.length cs.size) rfl
  have c1 := cell_of h.own 1 (v := .map (some bm)) rfl
  by_cases hm : D.may i = 0
  · have hi : 0 ≤ i ∧ i < D.lasts.length := by
      unfold Dk.may Dk.len at hm
      split at hm
      · omega
      · split at hm
        · omega
        · omega
    obtain ⟨j, rfl⟩ := Int.eq_ofNat_of_zero_le hi.1
    have hj : j < D.lasts.length := by omega
    have hj' : j < D.waits.length := by rw [h.ok.same]; exact hj
    have hsl := sec_len h.ok j hj
    have hbig := h.ok.hi
    cases hw : D.waits[j]? with
    | none => simp at hw; omega
    | some ob =>
    cases ob with
    | some b =>
      obtain ⟨v, hv, hb⟩ := h.opts.2 j b hw
      have hlook := run_look_some (P := Tryz.prog) Tryz.underlying109 Tryz.underlying3 h.mp hv true
      simp only [if_true] at hlook
      have es : D.sec j = b := by simp [Dk.sec, List.getD, hw]
      have Hb : Hid (BytesAt w v b) := hb
      have Hl : Hid (b.length = 256) := by rw [← es]; exact hsl
      have ES := Lib.hid es
      have HM := Lib.hid hm
      clear hb hv es hw h hsl hm
      go_enter Tryz.func102, Tryz.ntmps102
      go_wp2_with (first
        | (go_at_call 118; refine (dk_may p bl bm D _ _ hd.out).mono ?_; rintro e w' ⟨rfl, rfl⟩; rw [HM.out])
        | (go_at_call 82; refine (clone_b v b _ Hb.out (by rw [Hl.out]; decide)).mono ?_; rintro e w1 ⟨v1, rfl, ho, hk⟩))
      go_ret2
      exact ⟨_, by rw [HM.out]; rfl, fun c => absurd HM.out c, fun _ => by simpa [ES.out] using ho, hk⟩
    | none =>
      have hv : alook al j = none := by
        cases hl : alook al j with
        | none => rfl
        | some v =>
          obtain ⟨j', e, bs, h1, _⟩ := h.opts.1 j v hl
          have : j = j' := by omega
          subst this
          rw [hw] at h1; simp at h1
      have hlook := run_look_none (P := Tryz.prog) Tryz.underlying109 Tryz.underlying3 h.mp (zero30 w) hv true
      simp only [if_true] at hlook
      obtain ⟨v, hcv, hb⟩ := h.row.2.2 j hj
      have cv := cell_of h.row.1 j hcv
      have es : D.sec j = D.lasts[j] := by simp [Dk.sec, List.getD, hw, hj]
      have Hb : Hid (BytesAt w v D.lasts[j]) := hb
      have Hl : Hid (D.lasts[j].length = 256) := by rw [← es]; exact hsl
      have ES := Lib.hid es
      have HM := Lib.hid hm
      have hcs := h.row.2.1
      clear hb hv es hw h hsl hm hcv
      go_enter Tryz.func102, Tryz.ntmps102
      go_wp2_with (first
        | (go_at_call 118; refine (dk_may p bl bm D _ _ hd.out).mono ?_; rintro e w' ⟨rfl, rfl⟩; rw [HM.out])
        | (go_at_call 82; refine (clone_b v _ _ Hb.out (by rw [Hl.out]; decide)).mono ?_; rintro e w1 ⟨v1, rfl, ho, hk⟩))
      go_ret2
      exact ⟨_, by rw [HM.out]; rfl, fun c => absurd HM.out c, fun _ => by simpa [ES.out] using ho, hk⟩
  · have hb : (D.may i != 0) = true := by rw [bne_iff_ne]; exact hm
    clear h
    have HM := Lib.hid hm
    clear hm
    generalize hM : D.may i = M at *
    have HE := Lib.hid hM
    clear hM
    go_enter Tryz.func102, Tryz.ntmps102
    go_wp2_with (go_at_call 118; refine (dk_may p bl bm D _ _ hd.out).mono ?_; rintro e w' ⟨rfl, rfl⟩; rw [HE.out])
    go_ret2
    exact ⟨_, rfl, fun _ => rfl, fun c => absurd c HM.out, Kp.refl _ _⟩
end
end Go.Proofs.YtonkeialdfofcaaGreatDoor
