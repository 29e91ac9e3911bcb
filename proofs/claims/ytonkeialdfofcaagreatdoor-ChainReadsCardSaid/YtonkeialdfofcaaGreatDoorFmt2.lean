/-
  log.Format: its contract.
-/
import Derived.Test.YtonkeialdfofcaaGreatDoorFmt
import Derived.StillTailTactics
namespace Go.Proofs.YtonkeialdfofcaaGreatDoor
open Go.RowKit Go
theorem Kp.cell {S : List Nat} {w w' : World} (k : Kp S w w') {b i : Nat} {v : Value} (h : w.cell? ⟨b, i, none⟩ = some v) (hb : b ∉ S) : w'.cell? ⟨b, i, none⟩ = some v := by
  have hlt : b < w.heap.size := World.block_lt_of_cell? w ⟨b, i, none⟩ h
  rw [World.cell?_of_block (w := w) (k.blk b hlt hb), h]
section
variable {w : World} {p bl bm : Nat} {D : Dk}

set_option maxHeartbeats 1000000 in
theorem fmt_1 (xd xn : Nat) (D : Dk) (v : Value) (bs : Bs) (w : World) (h : IsDk w p bl bm D) (hb : BytesAt w v bs) (c0 : w.cell? ⟨xd, 0, none⟩ = some (.pointer (some ⟨p, 0, none⟩))) (c1 : w.cell? ⟨xn, 0, none⟩ = some v) :
    Calls Tryz.prog 69 #[.pointer (some ⟨xd, 0, none⟩), .pointer (some ⟨xn, 0, none⟩)] w fun e w' => e = .returned (.int .i64 (fillD 2 D 0 bs).1) ∧ IsDk w' p bl bm (fillD 2 D 0 bs).2 ∧ Kp [p, bm] w w' := by
  have H := Lib.hid (lg_fill p bl bm D 0 2 v bs w h hb (by omega) (by omega))
  obtain ⟨sa, sn, sc, rfl⟩ := hb.shape
  clear h hb
  go_enter Tryz.func69, Tryz.ntmps69
  go_wp2_with (go_at_call 70; refine H.out.mono ?_; rintro e w1 ⟨rfl, hd1, hk1⟩)
  go_ret
  exact ⟨rfl, hd1, hk1⟩

set_option maxRecDepth 20000 in
set_option maxHeartbeats 1000000 in
theorem fmt_2 (xd xn : Nat) (D : Dk) (v : Value) (bs : Bs) (w : World) (h : IsDk w p bl bm D) (hb : BytesAt w v bs) (c0 : w.cell? ⟨xd, 0, none⟩ = some (.pointer (some ⟨p, 0, none⟩))) (c1 : w.cell? ⟨xn, 0, none⟩ = some v) :
    Calls Tryz.prog 72 #[.pointer (some ⟨xd, 0, none⟩), .pointer (some ⟨xn, 0, none⟩)] w fun e w' => e = .returned (.int .i64 (fillD (D.len - 2) D 2 bs).1) ∧ IsDk w' p bl bm (fillD (D.len - 2) D 2 bs).2 ∧ Kp [p, bm] w w' := by
  have hlo := h.ok.lo
  have hhi := h.ok.hi
  have H := Lib.hid (lg_fill p bl bm D 2 D.len v bs w.drew (h.kp0 (Kp.drew w)) (hb.kp0 (Kp.drew w)) (by unfold Dk.len; omega) (by unfold Dk.len; omega))
  have HD := Lib.hid (h.kp0 (Kp.drew w))
  obtain ⟨sa, sn, sc, rfl⟩ := hb.shape
  clear h hb
  go_enter Tryz.func72, Tryz.ntmps72
  go_wp2
  refine wp_region_still_tail 4 (by kernel_rfl) (by kernel_rfl) ?_
  simp only [List.take_succ_cons, List.take_zero, List.drop_succ_cons, List.drop_zero]
  change wpStill _ _ (World.drew _) (fun a' => wpList _ _ _ _ a' (World.drew _)) _ _
  still_step
  still_step
  still_call ((dk_len p bl bm D _ HD.out).mono fun _ _ h => ⟨h.1, h.2.symm⟩)
  still_step
  refine wpStill_nil ?_
  go_wp2_with (go_at_call 70; refine H.out.mono ?_; rintro e w1 ⟨rfl, hd1, hk1⟩)
  go_ret
  exact ⟨rfl, hd1, ((Kp.drew w).mono (by simp)).and hk1⟩

set_option maxRecDepth 20000 in
set_option maxHeartbeats 1000000 in
theorem fmt_3 (xd xr : Nat) (D : Dk) (ring : Nat) (w : World) (hr : ring < 4294967296) (h : IsDk w p bl bm D) (c0 : w.cell? ⟨xd, 0, none⟩ = some (.pointer (some ⟨p, 0, none⟩))) (c1 : w.cell? ⟨xr, 0, none⟩ = some (.int .i64 ring)) :
    Calls Tryz.prog 73 #[.pointer (some ⟨xd, 0, none⟩), .pointer (some ⟨xr, 0, none⟩)] w fun e w' => e = .returned (.int .i64 (D.write 1 (anchorB 1 1 0 ring)).1) ∧ IsDk w' p bl bm (D.write 1 (anchorB 1 1 0 ring)).2 ∧ Kp [p, bm] w w' := by
  have HD := Lib.hid (h.kp0 (Kp.drew w))
  have HA := Lib.hid (anchor_bytes 1 1 0 ring w.drew (by omega) (by omega) (by omega) hr)
  clear h
  go_enter Tryz.func73, Tryz.ntmps73
  go_wp2
  go_region_with (first
    | (go_at_call 75; refine HA.out.mono ?_; rintro e w1 ⟨v1, rfl, ho1, hk1⟩; obtain ⟨a1, n1, cp1, rfl⟩ := ho1.bytes.shape; have c0' := hk1.cell (b := xd) (i := 0) c0 (by simp); have HO1 := Lib.hid ho1; have HK1 := Lib.hid hk1; clear ho1 hk1)
    | (go_at_call 74; refine (dk_write p bl bm D 1 _ _ _ (HD.out.kp0 HK1.out) HO1.out.bytes).mono ?_; rintro e w2 ⟨rfl, hd2, hk2⟩))
  all_goals
    go_wp2
    go_ret
    exact ⟨rfl, hd2, ((((Kp.drew w).mono (by simp)).and (HK1.out.mono (by simp))).and hk2)⟩
end
end Go.Proofs.YtonkeialdfofcaaGreatDoor
