/-
  log.Format: its contract.
-/
import Derived.Test.YtonkeialdfofcaaGreatDoorFmt2
namespace Go.Proofs.YtonkeialdfofcaaGreatDoor
open Go.RowKit Go

/-- Format's steps. -/
def fmtS (k ring : Nat) (D : Dk) : Int × Dk :=
  match k with
  | 0 => fillD 2 D 0 (zeros 256)
  | 1 => D.flush
  | 2 => fillD (D.len - 2) D 2 (zeros 256)
  | 3 => D.flush
  | 4 => D.write 1 (anchorB 1 1 0 ring)
  | _ => D.flush
def fmtR : Nat → Nat → Dk → Int × Dk
  | 0, _, D => (0, D)
  | n + 1, ring, D => if (fmtS (5 - n) ring D).1 = 0 then fmtR n ring (fmtS (5 - n) ring D).2 else fmtS (5 - n) ring D

theorem blkA {w : World} {n : Nat} (h : w.heap.size = n) (o : Obj) : (w.alloc o).heap[n]? = some o := by rw [← h]; exact blk_alloc_new w o

/-- Format's own five blocks: two parameters, 256 noughts, the slice over them, six steps. -/
structure FmtW (W : World) (x0 x1 x2 x3 x4 p ring : Nat) : Prop where
  b0 : W.heap[x0]? = some (.cells #[.pointer (some ⟨p, 0, none⟩)] 23 (0, 0))
  b1 : W.heap[x1]? = some (.cells #[.int .i64 ring] 3 (0, 0))
  b2 : W.heap[x2]? = some (.cells (zN 256) 5 (0, 0))
  b3 : W.heap[x3]? = some (.cells #[.slice (some ⟨x2, 0, none⟩) 256 256] 30 (0, 0))
  b4 : W.heap[x4]? = some (.cells #[.func (.func 69) #[] #[.pointer (some ⟨x0, 0, none⟩), .pointer (some ⟨x3, 0, none⟩)], .func (.func 71) #[.pointer (some ⟨p, 0, none⟩)] #[], .func (.func 72) #[] #[.pointer (some ⟨x0, 0, none⟩), .pointer (some ⟨x3, 0, none⟩)], .func (.func 71) #[.pointer (some ⟨p, 0, none⟩)] #[], .func (.func 73) #[] #[.pointer (some ⟨x0, 0, none⟩), .pointer (some ⟨x1, 0, none⟩)], .func (.func 71) #[.pointer (some ⟨p, 0, none⟩)] #[]] 39 (0, 0))
theorem FmtW.kp {S : List Nat} {W W' : World} {x0 x1 x2 x3 x4 p ring : Nat} (h : FmtW W x0 x1 x2 x3 x4 p ring) (k : Kp S W W') (hs : ∀ x ∈ S, x ≠ x0 ∧ x ≠ x1 ∧ x ≠ x2 ∧ x ≠ x3 ∧ x ≠ x4) : FmtW W' x0 x1 x2 x3 x4 p ring :=
  ⟨k.at h.b0 fun c => (hs _ c).1 rfl, k.at h.b1 fun c => (hs _ c).2.1 rfl, k.at h.b2 fun c => (hs _ c).2.2.1 rfl, k.at h.b3 fun c => (hs _ c).2.2.2.1 rfl, k.at h.b4 fun c => (hs _ c).2.2.2.2 rfl⟩
/-- They are none of the disk's. -/
theorem FmtW.ne {W : World} {x0 x1 x2 x3 x4 p ring : Nat} (h : FmtW W x0 x1 x2 x3 x4 p ring) {bl bm : Nat} {D : Dk} (hd : IsDk W p bl bm D) (h1 : p < x0 ∧ p < x1 ∧ p < x2 ∧ p < x3 ∧ p < x4) (h2 : bl < x0 ∧ bl < x1 ∧ bl < x2 ∧ bl < x3 ∧ bl < x4) :
    ∀ x ∈ [p, bl, bm], x ≠ x0 ∧ x ≠ x1 ∧ x ≠ x2 ∧ x ≠ x3 ∧ x ≠ x4 := by
  obtain ⟨cs, al, vt, hd⟩ := hd
  obtain ⟨es, c, hm, _⟩ := hd.mp
  intro x hx
  simp only [List.mem_cons, List.not_mem_nil, or_false] at hx
  rcases hx with rfl | rfl | rfl
  · omega
  · omega
  · refine ⟨fun e => ?_, fun e => ?_, fun e => ?_, fun e => ?_, fun e => ?_⟩
    · have := h.b0; rw [← e, hm] at this; simp at this
    · have := h.b1; rw [← e, hm] at this; simp at this
    · have := h.b2; rw [← e, hm] at this; simp at this
    · have := h.b3; rw [← e, hm] at this; simp at this
    · have := h.b4; rw [← e, hm] at this; simp at this

section
variable {w : World} {p bl bm : Nat} {D : Dk}

set_option maxRecDepth 20000 in
set_option maxHeartbeats 4000000 in
theorem fmt_go (p bl bm : Nat) (D : Dk) (ring : Nat) (w : World) (h : IsDk w p bl bm D) (h1 : 8 ≤ ring) (h2 : ring ≤ 512) (h3 : ring + 10 ≤ D.len) :
    Calls Tryz.prog 17 #[.pointer (some ⟨p, 0, none⟩), .int .i64 ring] w fun e w' => e = .returned (.int .i64 (fmtR 6 ring D).1) ∧ ∃ bm', IsDk w' p bl bm' (fmtR 6 ring D).2 ∧ (bm' = bm ∨ w.heap.size ≤ bm') ∧ Kp [p, bl, bm] w w' := by
  have HD := Lib.hid h
  have hh := h.ok.hi
  have hh2 : D.len ≤ 1900 := hh
  have b1 : ((D.len : Int) == 0) = false := beq_eq_false_iff_ne.2 (by omega)
  have b2 : decide ((ring : Int) < 8) = false := by simp; omega
  have b3 : decide ((512 : Int) < (ring : Int)) = false := by simp; omega
  have b4 : decide ((D.len : Int) - 2 - (ring : Int) < 8) = false := by simp; omega
  have hmk := run_make256
  clear h hh
  go_enter Tryz.func17, Tryz.ntmps17
  go_wp2
  go_quiet ((go_at_call 68; exact quiet_same (dk_len p bl bm D _ (HD.out.kp0 (((Kp.alloc _ _).and (Kp.alloc _ _)).and (Kp.drewN _ _))))))
  go_wp2
  generalize hW : World.alloc _ _ = W
  have hsz : ∀ A B, (((w.alloc A).alloc B).drewN nq).heap.size = w.heap.size + 1 + 1 := by intro A B; simp
  have F : FmtW W w.heap.size (w.heap.size + 1) (w.heap.size + 1 + 1) (w.heap.size + 1 + 1 + 1) (w.heap.size + 1 + 1 + 1 + 1) p ring := by
    rw [← hW]
    refine ⟨?_, ?_, ?_, ?_, ?_⟩
    · exact (Kp.alloc _ _).at ((Kp.alloc _ _).at ((Kp.alloc _ _).at ((Kp.drewN _ _).at ((Kp.alloc _ _).at (blk_alloc_new w _) (by simp)) (by simp)) (by simp)) (by simp)) (by simp)
    · exact (Kp.alloc _ _).at ((Kp.alloc _ _).at ((Kp.alloc _ _).at ((Kp.drewN _ _).at (blkA (by simp) _) (by simp)) (by simp)) (by simp)) (by simp)
    · exact (Kp.alloc _ _).at ((Kp.alloc _ _).at (blkA (by simp) _) (by simp)) (by simp)
    · exact (Kp.alloc _ _).at (blkA (by simp) _) (by simp)
    · exact blkA (by simp) _
  have hkW : Kp [] w W := by
    rw [← hW]
    exact ((((((Kp.alloc _ _).and (Kp.alloc _ _)).and (Kp.drewN _ _)).and (Kp.alloc _ _)).and (Kp.alloc _ _)).and (Kp.alloc _ _))
  clear hW hsz
  have e0 : w.heap.size ≤ w.heap.size := Nat.le_refl _
  have hx4 : w.heap.size < w.heap.size + 1 + 1 + 1 + 1 := by omega
  have hx3 : w.heap.size < w.heap.size + 1 + 1 + 1 := by omega
  have hx2 : w.heap.size < w.heap.size + 1 + 1 := by omega
  have hx1 : w.heap.size < w.heap.size + 1 := by omega
  generalize w.heap.size + 1 + 1 + 1 + 1 = x4 at *
  generalize w.heap.size + 1 + 1 + 1 = x3 at *
  generalize w.heap.size + 1 + 1 = x2 at *
  generalize w.heap.size + 1 = x1 at *
  have hlt0 : p < w.heap.size ∧ bl < w.heap.size := by obtain ⟨cs, al, vt, h⟩ := HD.out; exact ⟨lt_of_blk h.own, lt_of_blk h.row.1⟩
  have hz : BytesAt W (.slice (some ⟨x2, 0, none⟩) 256 256) (zeros 256) := zN_bytes F.b2
  have HF := Lib.hid F
  have HKW := Lib.hid hkW
  have hsW := hkW.size
  clear F hkW hz hmk
  generalize hR : fmtR 6 ring D = R at *
  have HR := Lib.hid hR
  clear hR
  go_loopw [42] (fun i wr => ∃ (k : Nat) (D' : Dk) (bm' : Nat), k ≤ 6 ∧ i = .int .i64 k ∧ R = fmtR (6 - k) ring D' ∧ IsDk wr p bl bm' D' ∧ (bm' = bm ∨ w.heap.size ≤ bm') ∧ FmtW wr w.heap.size x1 x2 x3 x4 p ring ∧ Kp [p, bl, bm] w wr) (fun i _ => 6 - (intOf i).toNat)
  case atStart => exact ⟨0, D, bm, by omega, rfl, HR.out.symm, HD.out.kp0 HKW.out, .inl rfl, HF.out, HKW.out.mono (by simp)⟩
  case round =>
    obtain ⟨k, D', bm', hk, rfl, hR', hd', hbm', hF', hkr⟩ := hrel
    have HR' := Lib.hid hR'
    have HD' := Lib.hid hd'
    have HF' := Lib.hid hF'
    have HK := Lib.hid hkr
    have HBM := Lib.hid hbm'
    have c0 := cell_of hF'.b0 0 (v := .pointer (some ⟨p, 0, none⟩)) rfl
    have c1 := cell_of hF'.b1 0 (v := .int .i64 ring) rfl
    have c3 := cell_of hF'.b3 0 (v := .slice (some ⟨x2, 0, none⟩) 256 256) rfl
    have hz := zN_bytes hF'.b2
    have HZ := Lib.hid hz
    clear hR' hd' hbm' hkr hz
    have hne := hF'.ne HD'.out (by omega) (by omega)
    have HNE := Lib.hid hne
    clear hne
    by_cases hk6 : k < 6
    · rcases (show k = 0 ∨ k = 1 ∨ k = 2 ∨ k = 3 ∨ k = 4 ∨ k = 5 by omega) with rfl | rfl | rfl | rfl | rfl | rfl
      · have c4 := cell_of hF'.b4 0 rfl
        clear hF'
        have ST : Calls Tryz.prog 69 #[.pointer (some ⟨w.heap.size, 0, none⟩), .pointer (some ⟨x3, 0, none⟩)] wr fun e w1 => ∃ bm2, e = .returned (.int .i64 (fmtS 0 ring D').1) ∧ IsDk w1 p bl bm2 (fmtS 0 ring D').2 ∧ (bm2 = bm' ∨ wr.heap.size ≤ bm2) ∧ Kp [p, bl, bm'] wr w1 := (fmt_1 w.heap.size x3 D' _ (zeros 256) wr HD'.out HZ.out c0 c3).mono fun e w1 h => ⟨bm', h.1, h.2.1, .inl rfl, h.2.2.mono (by simp)⟩
        have STH := Lib.hid ST
        have hcase : R = if (fmtS 0 ring D').1 = 0 then fmtR (6 - 1) ring (fmtS 0 ring D').2 else fmtS 0 ring D' := HR'.out
        clear ST c0 c1 c3
        by_cases he : (fmtS 0 ring D').1 = 0
        · rw [if_pos he] at hcase
          have HC := Lib.hid hcase
          have HE := Lib.hid he
          clear hcase he
          go_wp2_with (go_at_call 69; refine STH.out.mono ?_; rintro e w1 ⟨bm2, rfl, hd2, hb2, hk2⟩; rw [HE.out])
          go_roundw
          case rel =>
            refine ⟨1, _, bm2, by omega, by go_num, HC.out, hd2, ?_, HF'.out.kp hk2 HNE.out, HK.out.trans hk2 ?_⟩
            · have := HK.out.size; have := HBM.out; omega
            · intro x hx; have := HBM.out; simp at hx ⊢; omega
          case measure => simp [intOf]
        · rw [if_neg he] at hcase
          have hb : (((fmtS 0 ring D').1 : Int) != 0) = true := by rw [bne_iff_ne]; exact he
          have HC := Lib.hid hcase
          clear hcase he
          go_wp2_with (go_at_call 69; refine STH.out.mono ?_; rintro e w1 ⟨bm2, rfl, hd2, hb2, hk2⟩)
          go_ret
          refine ⟨by rw [HR.out, HC.out]; rfl, bm2, by rw [HR.out, HC.out]; exact hd2, ?_, HK.out.trans hk2 ?_⟩
          · have := HK.out.size; have := HBM.out; omega
          · intro x hx; have := HBM.out; simp at hx ⊢; omega
      · have c4 := cell_of hF'.b4 1 rfl
        clear hF'
        have ST : Calls Tryz.prog 71 #[.pointer (some ⟨p, 0, none⟩)] wr fun e w1 => ∃ bm2, e = .returned (.int .i64 (fmtS 1 ring D').1) ∧ IsDk w1 p bl bm2 (fmtS 1 ring D').2 ∧ (bm2 = bm' ∨ wr.heap.size ≤ bm2) ∧ Kp [p, bl, bm'] wr w1 := (dk_flush p bl bm' D' wr HD'.out).mono fun e w1 h => let ⟨h1, bm2, h2, h3, h4⟩ := h; ⟨bm2, h1, h2, h3, h4⟩
        have STH := Lib.hid ST
        have hcase : R = if (fmtS 1 ring D').1 = 0 then fmtR (6 - 2) ring (fmtS 1 ring D').2 else fmtS 1 ring D' := HR'.out
        clear ST c0 c1 c3
        by_cases he : (fmtS 1 ring D').1 = 0
        · rw [if_pos he] at hcase
          have HC := Lib.hid hcase
          have HE := Lib.hid he
          clear hcase he
          go_wp2_with (go_at_call 71; refine STH.out.mono ?_; rintro e w1 ⟨bm2, rfl, hd2, hb2, hk2⟩; rw [HE.out])
          go_roundw
          case rel =>
            refine ⟨2, _, bm2, by omega, by go_num, HC.out, hd2, ?_, HF'.out.kp hk2 HNE.out, HK.out.trans hk2 ?_⟩
            · have := HK.out.size; have := HBM.out; omega
            · intro x hx; have := HBM.out; simp at hx ⊢; omega
          case measure => simp [intOf]
        · rw [if_neg he] at hcase
          have hb : (((fmtS 1 ring D').1 : Int) != 0) = true := by rw [bne_iff_ne]; exact he
          have HC := Lib.hid hcase
          clear hcase he
          go_wp2_with (go_at_call 71; refine STH.out.mono ?_; rintro e w1 ⟨bm2, rfl, hd2, hb2, hk2⟩)
          go_ret
          refine ⟨by rw [HR.out, HC.out]; rfl, bm2, by rw [HR.out, HC.out]; exact hd2, ?_, HK.out.trans hk2 ?_⟩
          · have := HK.out.size; have := HBM.out; omega
          · intro x hx; have := HBM.out; simp at hx ⊢; omega
      · have c4 := cell_of hF'.b4 2 rfl
        clear hF'
        have ST : Calls Tryz.prog 72 #[.pointer (some ⟨w.heap.size, 0, none⟩), .pointer (some ⟨x3, 0, none⟩)] wr fun e w1 => ∃ bm2, e = .returned (.int .i64 (fmtS 2 ring D').1) ∧ IsDk w1 p bl bm2 (fmtS 2 ring D').2 ∧ (bm2 = bm' ∨ wr.heap.size ≤ bm2) ∧ Kp [p, bl, bm'] wr w1 := (fmt_2 w.heap.size x3 D' _ (zeros 256) wr HD'.out HZ.out c0 c3).mono fun e w1 h => ⟨bm', h.1, h.2.1, .inl rfl, h.2.2.mono (by simp)⟩
        have STH := Lib.hid ST
        have hcase : R = if (fmtS 2 ring D').1 = 0 then fmtR (6 - 3) ring (fmtS 2 ring D').2 else fmtS 2 ring D' := HR'.out
        clear ST c0 c1 c3
        by_cases he : (fmtS 2 ring D').1 = 0
        · rw [if_pos he] at hcase
          have HC := Lib.hid hcase
          have HE := Lib.hid he
          clear hcase he
          go_wp2_with (go_at_call 72; refine STH.out.mono ?_; rintro e w1 ⟨bm2, rfl, hd2, hb2, hk2⟩; rw [HE.out])
          go_roundw
          case rel =>
            refine ⟨3, _, bm2, by omega, by go_num, HC.out, hd2, ?_, HF'.out.kp hk2 HNE.out, HK.out.trans hk2 ?_⟩
            · have := HK.out.size; have := HBM.out; omega
            · intro x hx; have := HBM.out; simp at hx ⊢; omega
          case measure => simp [intOf]
        · rw [if_neg he] at hcase
          have hb : (((fmtS 2 ring D').1 : Int) != 0) = true := by rw [bne_iff_ne]; exact he
          have HC := Lib.hid hcase
          clear hcase he
          go_wp2_with (go_at_call 72; refine STH.out.mono ?_; rintro e w1 ⟨bm2, rfl, hd2, hb2, hk2⟩)
          go_ret
          refine ⟨by rw [HR.out, HC.out]; rfl, bm2, by rw [HR.out, HC.out]; exact hd2, ?_, HK.out.trans hk2 ?_⟩
          · have := HK.out.size; have := HBM.out; omega
          · intro x hx; have := HBM.out; simp at hx ⊢; omega
      · have c4 := cell_of hF'.b4 3 rfl
        clear hF'
        have ST : Calls Tryz.prog 71 #[.pointer (some ⟨p, 0, none⟩)] wr fun e w1 => ∃ bm2, e = .returned (.int .i64 (fmtS 3 ring D').1) ∧ IsDk w1 p bl bm2 (fmtS 3 ring D').2 ∧ (bm2 = bm' ∨ wr.heap.size ≤ bm2) ∧ Kp [p, bl, bm'] wr w1 := (dk_flush p bl bm' D' wr HD'.out).mono fun e w1 h => let ⟨h1, bm2, h2, h3, h4⟩ := h; ⟨bm2, h1, h2, h3, h4⟩
        have STH := Lib.hid ST
        have hcase : R = if (fmtS 3 ring D').1 = 0 then fmtR (6 - 4) ring (fmtS 3 ring D').2 else fmtS 3 ring D' := HR'.out
        clear ST c0 c1 c3
        by_cases he : (fmtS 3 ring D').1 = 0
        · rw [if_pos he] at hcase
          have HC := Lib.hid hcase
          have HE := Lib.hid he
          clear hcase he
          go_wp2_with (go_at_call 71; refine STH.out.mono ?_; rintro e w1 ⟨bm2, rfl, hd2, hb2, hk2⟩; rw [HE.out])
          go_roundw
          case rel =>
            refine ⟨4, _, bm2, by omega, by go_num, HC.out, hd2, ?_, HF'.out.kp hk2 HNE.out, HK.out.trans hk2 ?_⟩
            · have := HK.out.size; have := HBM.out; omega
            · intro x hx; have := HBM.out; simp at hx ⊢; omega
          case measure => simp [intOf]
        · rw [if_neg he] at hcase
          have hb : (((fmtS 3 ring D').1 : Int) != 0) = true := by rw [bne_iff_ne]; exact he
          have HC := Lib.hid hcase
          clear hcase he
          go_wp2_with (go_at_call 71; refine STH.out.mono ?_; rintro e w1 ⟨bm2, rfl, hd2, hb2, hk2⟩)
          go_ret
          refine ⟨by rw [HR.out, HC.out]; rfl, bm2, by rw [HR.out, HC.out]; exact hd2, ?_, HK.out.trans hk2 ?_⟩
          · have := HK.out.size; have := HBM.out; omega
          · intro x hx; have := HBM.out; simp at hx ⊢; omega
      · have c4 := cell_of hF'.b4 4 rfl
        clear hF'
        have ST : Calls Tryz.prog 73 #[.pointer (some ⟨w.heap.size, 0, none⟩), .pointer (some ⟨x1, 0, none⟩)] wr fun e w1 => ∃ bm2, e = .returned (.int .i64 (fmtS 4 ring D').1) ∧ IsDk w1 p bl bm2 (fmtS 4 ring D').2 ∧ (bm2 = bm' ∨ wr.heap.size ≤ bm2) ∧ Kp [p, bl, bm'] wr w1 := (fmt_3 w.heap.size x1 D' ring wr (by omega) HD'.out c0 c1).mono fun e w1 h => ⟨bm', h.1, h.2.1, .inl rfl, h.2.2.mono (by simp)⟩
        have STH := Lib.hid ST
        have hcase : R = if (fmtS 4 ring D').1 = 0 then fmtR (6 - 5) ring (fmtS 4 ring D').2 else fmtS 4 ring D' := HR'.out
        clear ST c0 c1 c3
        by_cases he : (fmtS 4 ring D').1 = 0
        · rw [if_pos he] at hcase
          have HC := Lib.hid hcase
          have HE := Lib.hid he
          clear hcase he
          go_wp2_with (go_at_call 73; refine STH.out.mono ?_; rintro e w1 ⟨bm2, rfl, hd2, hb2, hk2⟩; rw [HE.out])
          go_roundw
          case rel =>
            refine ⟨5, _, bm2, by omega, by go_num, HC.out, hd2, ?_, HF'.out.kp hk2 HNE.out, HK.out.trans hk2 ?_⟩
            · have := HK.out.size; have := HBM.out; omega
            · intro x hx; have := HBM.out; simp at hx ⊢; omega
          case measure => simp [intOf]
        · rw [if_neg he] at hcase
          have hb : (((fmtS 4 ring D').1 : Int) != 0) = true := by rw [bne_iff_ne]; exact he
          have HC := Lib.hid hcase
          clear hcase he
          go_wp2_with (go_at_call 73; refine STH.out.mono ?_; rintro e w1 ⟨bm2, rfl, hd2, hb2, hk2⟩)
          go_ret
          refine ⟨by rw [HR.out, HC.out]; rfl, bm2, by rw [HR.out, HC.out]; exact hd2, ?_, HK.out.trans hk2 ?_⟩
          · have := HK.out.size; have := HBM.out; omega
          · intro x hx; have := HBM.out; simp at hx ⊢; omega
      · have c4 := cell_of hF'.b4 5 rfl
        clear hF'
        have ST : Calls Tryz.prog 71 #[.pointer (some ⟨p, 0, none⟩)] wr fun e w1 => ∃ bm2, e = .returned (.int .i64 (fmtS 5 ring D').1) ∧ IsDk w1 p bl bm2 (fmtS 5 ring D').2 ∧ (bm2 = bm' ∨ wr.heap.size ≤ bm2) ∧ Kp [p, bl, bm'] wr w1 := (dk_flush p bl bm' D' wr HD'.out).mono fun e w1 h => let ⟨h1, bm2, h2, h3, h4⟩ := h; ⟨bm2, h1, h2, h3, h4⟩
        have STH := Lib.hid ST
        have hcase : R = if (fmtS 5 ring D').1 = 0 then fmtR (6 - 6) ring (fmtS 5 ring D').2 else fmtS 5 ring D' := HR'.out
        clear ST c0 c1 c3
        by_cases he : (fmtS 5 ring D').1 = 0
        · rw [if_pos he] at hcase
          have HC := Lib.hid hcase
          have HE := Lib.hid he
          clear hcase he
          go_wp2_with (go_at_call 71; refine STH.out.mono ?_; rintro e w1 ⟨bm2, rfl, hd2, hb2, hk2⟩; rw [HE.out])
          go_roundw
          case rel =>
            refine ⟨6, _, bm2, by omega, by go_num, HC.out, hd2, ?_, HF'.out.kp hk2 HNE.out, HK.out.trans hk2 ?_⟩
            · have := HK.out.size; have := HBM.out; omega
            · intro x hx; have := HBM.out; simp at hx ⊢; omega
          case measure => simp [intOf]
        · rw [if_neg he] at hcase
          have hb : (((fmtS 5 ring D').1 : Int) != 0) = true := by rw [bne_iff_ne]; exact he
          have HC := Lib.hid hcase
          clear hcase he
          go_wp2_with (go_at_call 71; refine STH.out.mono ?_; rintro e w1 ⟨bm2, rfl, hd2, hb2, hk2⟩)
          go_ret
          refine ⟨by rw [HR.out, HC.out]; rfl, bm2, by rw [HR.out, HC.out]; exact hd2, ?_, HK.out.trans hk2 ?_⟩
          · have := HK.out.size; have := HBM.out; omega
          · intro x hx; have := HBM.out; simp at hx ⊢; omega
    · have : k = 6 := by omega
      subst this
      have hcase : R = (0, D') := HR'.out
      have HC := Lib.hid hcase
      clear hcase c0 c1 c3 hF'
      go_wp2
      go_ret
      exact ⟨by rw [HR.out, HC.out]; rfl, bm', by rw [HR.out, HC.out]; exact HD'.out, HBM.out, HK.out⟩
end
end Go.Proofs.YtonkeialdfofcaaGreatDoor
