/-
  log's find: its contract.
-/
import Derived.Test.YtonkeialdfofcaaGreatDoorLg4
import Derived.Test.YtonkeialdfofcaaGreatDoorLgRead
namespace Go.Proofs.YtonkeialdfofcaaGreatDoor
open Go.RowKit Go

/-- What find takes up of one anchor. -/
def findS (D : Dk) (L : Lg) (i : Nat) : Lg :=
  if standsB (D.sec i) D.len = true ∧ L.s < numAt (D.sec i) 0 8 then { L with s := numAt (D.sec i) 0 8, turn := numAt (D.sec i) 8 8, place := numAt (D.sec i) 16 4, ring := numAt (D.sec i) 20 4 } else L
def findL (D : Dk) (L : Lg) : Lg := findS D (findS D L 0) 1

section
variable {w : World} {l p bl bm bm' : Nat} {L : Lg} {D : Dk} {al : List (Int × Value)}

theorem standsB_facts {bs : Bs} {n : Nat} (h : standsB bs n = true) : numAt bs 0 8 ≠ 0 ∧ 1 ≤ numAt bs 8 8 ∧ numAt bs 8 8 ≤ 4611686018427387903 ∧ 8 ≤ numAt bs 20 4 ∧ numAt bs 20 4 ≤ 512 ∧ numAt bs 16 4 < numAt bs 20 4 ∧ numAt bs 20 4 + 10 ≤ n := by
  unfold standsB at h
  simp at h
  omega

theorem did0 (L : Lg) : L.did 0 = L := by unfold Lg.did; simp

set_option maxRecDepth 20000 in
set_option maxHeartbeats 4000000 in
theorem find_ok (l p bl bm bm' : Nat) (L : Lg) (D : Dk) (w : World) (h : IsLg w l p bm' L) (hd : IsDk w p bl bm D) (hdead : D.dead = false) :
    Calls Tryz.prog 121 #[.pointer (some ⟨l, 0, none⟩)] w fun e w' => ∃ v, e = .returned v ∧ IsErr w' v (if (findL D L).s = 0 then 10 else 0) ∧ IsLg w' l p bm' (findL D L) ∧ Kp [l] w w' := by
  obtain ⟨E, hE⟩ : ∃ E : Int, E = (if (findL D L).s = 0 then 10 else 0) := ⟨_, rfl⟩
  rw [← hE]
  have HEE := Lib.hid hE
  clear hE
  have HL := Lib.hid h
  have HD := Lib.hid hd
  have hlo := hd.ok.lo
  have hhi := hd.ok.hi
  have hm0 : D.may 0 = 0 := by unfold Dk.may Dk.len; rw [hdead, if_neg (by simp), if_neg (by omega)]
  have hm1 : D.may 1 = 0 := by unfold Dk.may Dk.len; rw [hdead, if_neg (by simp), if_neg (by omega)]
  have HM0 := Lib.hid hm0
  have HM1 := Lib.hid hm1
  clear h hd hm0 hm1 hdead
  go_enter Tryz.func121, Tryz.ntmps121
  go_wp2
  go_loopw [8] (fun i wr => ∃ (k : Nat) (L' : Lg), k ≤ 2 ∧ i = .int .i64 k ∧ findL D L = (if k = 0 then findL D L' else if k = 1 then findS D L' 1 else L') ∧ IsLg wr l p bm' L' ∧ Kp [l] w wr) (fun i _ => 2 - (intOf i).toNat)
  case atStart => exact ⟨0, L, by omega, rfl, rfl, HL.out, Kp.refl _ _⟩
  case round =>
    obtain ⟨k, L', hk, rfl, hf, hl', hkr⟩ := hrel
    have HF := Lib.hid hf
    have HL' := Lib.hid hl'
    have HK := Lib.hid hkr
    have hd' : IsDk wr p bl bm D := HD.out.kpl HL.out hkr
    have HD' := Lib.hid hd'
    clear hf hl' hkr hd'
    by_cases hk2 : k < 2
    · have hmk : D.may (k : Int) = 0 := by
        rcases (show k = 0 ∨ k = 1 by omega) with rfl | rfl
        · exact HM0.out
        · exact HM1.out
      have hf' : findL D L = (if k + 1 = 0 then findL D (findS D L' k) else if k + 1 = 1 then findS D (findS D L' k) 1 else findS D L' k) := by
        have := HF.out
        rcases (show k = 0 ∨ k = 1 by omega) with rfl | rfl
        · exact this
        · exact this
      have HF' := Lib.hid hf'
      have HMK := Lib.hid hmk
      have hsl := sec_len HD.out.ok k (by omega)
      have HSL := Lib.hid hsl
      have hlen : D.len ≤ 1900 := by unfold Dk.len; omega
      clear hf' hmk hsl
      cases hst : standsB (D.sec k) D.len with
      | false =>
        have HST := Lib.hid hst
        clear hst
        go_wp2_with (first
          | (go_at_call 84; refine (lg_read l p bl bm bm' L' D k _ HL'.out HD'.out).mono ?_; rintro e w1 ⟨v1, v2, rfl, he, ho, hl1, hk1⟩; rw [HMK.out] at he ho hl1; rw [did0] at hl1; obtain rfl := he.zero; have ho' := ho rfl; rw [Int.toNat_natCast] at ho'; obtain ⟨a1, n1, cp1, rfl⟩ := ho'.bytes.shape; have c0 : w1.cell? ⟨l, 0, none⟩ = some (.pointer (some ⟨p, 0, none⟩)) := (by obtain ⟨al, h⟩ := hl1; exact cell_of h.own 0 rfl); have HD1 := Lib.hid (HD'.out.kpl HL'.out hk1); have HL1 := Lib.hid hl1; have HO1 := Lib.hid ho'; clear ho ho' he hl1)
          | (go_at_call 68; refine (dk_len p bl bm D _ HD1.out).mono ?_; rintro e w' ⟨rfl, rfl⟩)
          | (go_at_call 151; refine (stands_b _ _ D.len _ HO1.out.bytes HSL.out hlen).mono ?_; rintro e w2 ⟨s0, t0, p0, r0, rfl, hfa, hk2'⟩; rw [HST.out] at hfa ⊢))
        go_quiet (fail)
        have hk3 : Kp [l] w (w2.alloc (.cells #[.int .u64 s0, .int .u64 t0, .int .i64 p0, .int .i64 r0] 114)) := (HK.out.and hk1).and ((hk2'.and (Kp.alloc _ _)).mono (by simp))
        have HK3 := Lib.hid (hk3.and ((Kp.drewN _ nq).mono (by simp)))
        have hfs : findS D L' k = L' := by unfold findS; rw [HST.out]; simp
        have HFS := Lib.hid hfs
        have HL3 := Lib.hid ((HL1.out.kp0 hk2').kp0 ((Kp.alloc w2 (.cells #[.int .u64 s0, .int .u64 t0, .int .i64 p0, .int .i64 r0] 114)).and (Kp.drewN _ nq)))
        clear hk3 hfs hfa
        go_wp2
        go_roundw
        case rel => exact ⟨k + 1, L', by omega, by go_num, by rw [HF'.out, HFS.out], HL3.out, HK3.out⟩
        case measure => simp [intOf]; omega
      | true =>
        have HST := Lib.hid hst
        have hfact := standsB_facts hst
        have hn1 := numAt_lt (D.sec k) 0 8
        have hn2 := numAt_lt (D.sec k) 8 8
        have hls : L'.s < 18446744073709551616 := by obtain ⟨al, h⟩ := HL'.out; exact h.slt
        have HLS := Lib.hid hls
        clear hst hls
        by_cases hgt : L'.s < numAt (D.sec k) 0 8
        · have hg1 : decide (L'.s < numAt (D.sec k) 0 8) = true := by simpa using hgt
          have hg2 : decide ((L'.s : Int) < (numAt (D.sec k) 0 8 : Int)) = true := by simp; omega
          have HG := Lib.hid hgt
          have HN1 := Lib.hid hn1
          have HN2 := Lib.hid hn2
          have HFA := Lib.hid hfact
          clear hgt hn1 hn2 hfact
          go_wp2_with (first
            | (go_at_call 84; refine (lg_read l p bl bm bm' L' D k _ HL'.out HD'.out).mono ?_; rintro e w1 ⟨v1, v2, rfl, he, ho, hl1, hk1⟩; rw [HMK.out] at he ho hl1; rw [did0] at hl1; obtain rfl := he.zero; have ho' := ho rfl; rw [Int.toNat_natCast] at ho'; obtain ⟨a1, n1, cp1, rfl⟩ := ho'.bytes.shape; have c0 : w1.cell? ⟨l, 0, none⟩ = some (.pointer (some ⟨p, 0, none⟩)) := (by obtain ⟨al, h⟩ := hl1; exact cell_of h.own 0 rfl); have HD1 := Lib.hid (HD'.out.kpl HL'.out hk1); have HL1 := Lib.hid hl1; have HO1 := Lib.hid ho'; clear ho ho' he hl1)
            | (go_at_call 68; refine (dk_len p bl bm D _ HD1.out).mono ?_; rintro e w' ⟨rfl, rfl⟩)
            | (go_at_call 151; refine (stands_b _ _ D.len _ HO1.out.bytes HSL.out hlen).mono ?_; rintro e w2 ⟨s0, t0, p0, r0, rfl, hfa, hk2'⟩; rw [HST.out] at hfa ⊢))
          obtain ⟨rfl, rfl, rfl, rfl⟩ := hfa trivial
          obtain ⟨al1, hl2⟩ := HL1.out.kp0 hk2'
          have HL2 := Lib.hid hl2
          have ol := blk_alloc_old (o' := .cells #[.int .u64 (numAt (D.sec k) 0 8), .int .u64 (numAt (D.sec k) 8 8), .int .i64 (numAt (D.sec k) 16 4), .int .i64 (numAt (D.sec k) 20 4)] 114) hl2.own
          have c3 := cell_of ol 3 (v := .int .u64 L'.s) rfl
          have c4 := cell_of ol 4 (v := .int .u64 L'.turn) rfl
          have c5 := cell_of ol 5 (v := .int .i64 L'.place) rfl
          have c6 := cell_of ol 6 (v := .int .i64 L'.ring) rfl
          have f3 := free_of ol 3
          have f4 := free_of ol 4
          have f5 := free_of ol 5
          have f6 := free_of ol 6
          have OL := Lib.hid ol
          clear ol hl2
          go_quiet (fail)
          go_wp2
          go_roundw
          case rel =>
            have hfs : findS D L' k = { L' with s := numAt (D.sec k) 0 8, turn := numAt (D.sec k) 8 8, place := numAt (D.sec k) 16 4, ring := numAt (D.sec k) 20 4 } := by unfold findS; rw [if_pos ⟨HST.out, HG.out⟩]
            have hkA := Kp.alloc w2 (.cells #[.int .u64 (numAt (D.sec k) 0 8), .int .u64 (numAt (D.sec k) 8 8), .int .i64 (numAt (D.sec k) 16 4), .int .i64 (numAt (D.sec k) 20 4)] 114)
            have hkB : Kp [l] w2 ((((((w2.alloc (.cells #[.int .u64 (numAt (D.sec k) 0 8), .int .u64 (numAt (D.sec k) 8 8), .int .i64 (numAt (D.sec k) 16 4), .int .i64 (numAt (D.sec k) 20 4)] 114)).drewN nq).setCell ⟨l, 3, none⟩ (.int .u64 (numAt (D.sec k) 0 8))).setCell ⟨l, 4, none⟩ (.int .u64 (numAt (D.sec k) 8 8))).setCell ⟨l, 5, none⟩ (.int .i64 (numAt (D.sec k) 16 4))).setCell ⟨l, 6, none⟩ (.int .i64 (numAt (D.sec k) 20 4))) :=
              (((((hkA.mono (by simp)).and ((Kp.drewN _ nq).mono (by simp))).and (Kp.setCell _ ⟨l, 3, none⟩ _)).and (Kp.setCell _ ⟨l, 4, none⟩ _)).and (Kp.setCell _ ⟨l, 5, none⟩ _)).and (Kp.setCell _ ⟨l, 6, none⟩ _)
            refine ⟨k + 1, findS D L' k, by omega, by go_num, HF'.out, ⟨al1, ?_⟩, (HK.out.and hk1).and ((hk2'.mono (by simp)).and hkB)⟩
            have b3 : numAt (D.sec k) 20 4 ≤ 512 := HFA.out.2.2.2.2.1
            have b4 : numAt (D.sec k) 16 4 < numAt (D.sec k) 20 4 := HFA.out.2.2.2.2.2.1
            rw [hfs]
            refine ⟨?_, HL2.out.mp.kp hkB (by simpa using HL2.out.ne.symm), HL2.out.opts.kp hkB HL2.out.noB1, HN1.out, HN2.out, by show numAt (D.sec k) 20 4 ≤ 1000000; omega, by show numAt (D.sec k) 16 4 ≤ 1000000000; omega⟩
            rw [blk_setCell (blk_setCell (blk_setCell (blk_setCell ((Kp.drewN _ nq).at OL.out (by simp)) _ _) _ _) _ _)]
            rfl
          case measure => simp [intOf]; omega
        · have hg1 : decide (L'.s < numAt (D.sec k) 0 8) = false := by simpa using hgt
          have hg2 : decide ((L'.s : Int) < (numAt (D.sec k) 0 8 : Int)) = false := by simp; omega
          have HG := Lib.hid hgt
          have HN1 := Lib.hid hn1
          have HN2 := Lib.hid hn2
          have HFA := Lib.hid hfact
          clear hgt hn1 hn2 hfact
          go_wp2_with (first
            | (go_at_call 84; refine (lg_read l p bl bm bm' L' D k _ HL'.out HD'.out).mono ?_; rintro e w1 ⟨v1, v2, rfl, he, ho, hl1, hk1⟩; rw [HMK.out] at he ho hl1; rw [did0] at hl1; obtain rfl := he.zero; have ho' := ho rfl; rw [Int.toNat_natCast] at ho'; obtain ⟨a1, n1, cp1, rfl⟩ := ho'.bytes.shape; have c0 : w1.cell? ⟨l, 0, none⟩ = some (.pointer (some ⟨p, 0, none⟩)) := (by obtain ⟨al, h⟩ := hl1; exact cell_of h.own 0 rfl); have HD1 := Lib.hid (HD'.out.kpl HL'.out hk1); have HL1 := Lib.hid hl1; have HO1 := Lib.hid ho'; clear ho ho' he hl1)
            | (go_at_call 68; refine (dk_len p bl bm D _ HD1.out).mono ?_; rintro e w' ⟨rfl, rfl⟩)
            | (go_at_call 151; refine (stands_b _ _ D.len _ HO1.out.bytes HSL.out hlen).mono ?_; rintro e w2 ⟨s0, t0, p0, r0, rfl, hfa, hk2'⟩; rw [HST.out] at hfa ⊢))
          obtain ⟨rfl, rfl, rfl, rfl⟩ := hfa trivial
          obtain ⟨al1, hl2⟩ := HL1.out.kp0 hk2'
          have HL2 := Lib.hid hl2
          have ol := blk_alloc_old (o' := (.cells #[.int .u64 (numAt (D.sec k) 0 8), .int .u64 (numAt (D.sec k) 8 8), .int .i64 (numAt (D.sec k) 16 4), .int .i64 (numAt (D.sec k) 20 4)] 114)) hl2.own
          have c3 := cell_of ol 3 (v := .int .u64 L'.s) rfl
          clear ol hl2
          go_quiet (fail)
          have hk3 : Kp [l] w (w2.alloc (.cells #[.int .u64 (numAt (D.sec k) 0 8), .int .u64 (numAt (D.sec k) 8 8), .int .i64 (numAt (D.sec k) 16 4), .int .i64 (numAt (D.sec k) 20 4)] 114)) := (HK.out.and hk1).and ((hk2'.and (Kp.alloc _ _)).mono (by simp))
          have HK3 := Lib.hid (hk3.and ((Kp.drewN _ nq).mono (by simp)))
          have hfs : findS D L' k = L' := by unfold findS; rw [if_neg (fun c => HG.out c.2)]
          have HFS := Lib.hid hfs
          have HL3 := Lib.hid ((HL1.out.kp0 hk2').kp0 ((Kp.alloc w2 (.cells #[.int .u64 (numAt (D.sec k) 0 8), .int .u64 (numAt (D.sec k) 8 8), .int .i64 (numAt (D.sec k) 16 4), .int .i64 (numAt (D.sec k) 20 4)] 114)).and (Kp.drewN _ nq)))
          clear hk3 hfs
          go_wp2
          go_roundw
          case rel => exact ⟨k + 1, L', by omega, by go_num, by rw [HF'.out, HFS.out], HL3.out, HK3.out⟩
          case measure => simp [intOf]; omega
    · have : k = 2 := by omega
      subst this
      have hf2 : findL D L = L' := HF.out
      have HF2 := Lib.hid hf2
      obtain ⟨al, hl⟩ := HL'.out
      have c3 := cell_of hl.own 3 (v := .int .u64 L'.s) rfl
      clear hl hf2
      by_cases hs : L'.s = 0
      · have hs1 : ((L'.s : Int) == 0) = true := by simp [hs]
        have HS := Lib.hid hs
        clear hs
        go_wp2_with (go_at_call 125; refine (bad_ok _ _).mono ?_; rintro e w1 ⟨v1, rfl, he, hk1⟩)
        go_ret
        exact ⟨_, rfl, by rw [HEE.out, HF2.out, if_pos HS.out]; exact he, by rw [HF2.out]; exact HL'.out.kp0 hk1, HK.out.and (hk1.mono (by simp))⟩
      · have hs1 : ((L'.s : Int) == 0) = false := by simpa using hs
        have HS := Lib.hid hs
        clear hs
        go_wp2
        go_ret
        exact ⟨_, rfl, by rw [HEE.out, HF2.out, if_neg HS.out]; exact IsErr.nil _, by rw [HF2.out]; exact HL'.out, HK.out⟩
end
end Go.Proofs.YtonkeialdfofcaaGreatDoor
