/-
  A transaction's Write: its contract; a transaction over a log as one thing.
-/
import Derived.Test.YtonkeialdfofcaaGreatDoorTx
namespace Go.Proofs.YtonkeialdfofcaaGreatDoor
open Go.RowKit Go
section
variable {w : World} {t l bmt n p bl bm bm' : Nat} {D : Dk} {L : Lg} {f : Nat → Bs} {over : Bool} {al : List (Int × Value)} {T : List (Option Bs)}

set_option maxHeartbeats 2000000 in
theorem tx_write (i : Nat) (v : Value) (b : Bs) (h : TxAt w t l bmt false al T) (hl : LgS w l n f p bl bm bm' D L) (hx1 : bmt ≠ bm) (hx2 : bmt ≠ bm') (hi : i < n) (hT : T.length = n) (hb : BytesAt w v b) (hbl : b.length = 248) :
    Calls Tryz.prog 45 #[.pointer (some ⟨t, 0, none⟩), .int .i64 i, v] w fun e w' => ∃ al', e = .returned (.int .i64 0) ∧ TxAt w' t l bmt false al' (T.set i (some b)) ∧ LgS w' l n f p bl bm bm' D L ∧ Kp [bmt] w w' := by
  have HL := Lib.hid hl
  have HT := Lib.hid h
  have HTL := Lib.hid hT
  have HB := Lib.hid hb
  have HBL := Lib.hid hbl
  have c0 := cell_of h.own 0 (v := .pointer (some ⟨l, 0, none⟩)) rfl
  have c1 := cell_of h.own 1 (v := .map (some bmt)) rfl
  have hlen : ((b.length : Int) != 248) = false := by rw [hbl]; rfl
  obtain ⟨a0, cap, rfl⟩ := hb.slice
  clear h hl hT hb hbl
  go_enter Tryz.func45, Tryz.ntmps45
  go_wp2_with (first
    | (go_at_call 107; refine (tx_may HT.out HL.out).mono ?_; rintro e w' ⟨rfl, k, rfl⟩)
    | (go_at_call 40; refine (lgs_homes (HL.out.kp0 (Kp.drewN _ _))).mono ?_; rintro e w' ⟨rfl, k2, rfl⟩))
  obtain ⟨W, hW⟩ : ∃ W, W = w.drewN (k + k2) := ⟨_, rfl⟩
  have hkW : Kp [] w W := by rw [hW]; exact Kp.drewN _ _
  have c1' : W.cell? ⟨t, 1, none⟩ = some (.map (some bmt)) := by rw [hW]; exact c1
  rw [← hW]
  have HKW := Lib.hid hkW
  clear hkW hW c1 c0
  have HT1 := Lib.hid (HT.out.kp0 HKW.out)
  go_region_with (go_at_call 82; refine (clone_b _ b _ (by exact (HB.out.kp0 HKW.out).kp0 (Kp.drew _)) (by rw [HBL.out]; decide)).mono ?_; rintro e w2 ⟨v2, rfl, ho2, hk2⟩; obtain ⟨a2, m2, n2, rfl⟩ := ho2.bytes.shape; have g2 := (HT1.out.kp0 (Kp.drew _)).kp0 hk2; have c1'' := cell_of g2.own 1 (v := .map (some bmt)) rfl; obtain ⟨w3, hu, hm3, hk3⟩ := run_mapUpdate (P := Tryz.prog) Tryz.underlying109 Tryz.underlying3 g2.mp i (.slice a2 m2 n2); have G2 := Lib.hid g2; have HO := Lib.hid ho2; clear g2 ho2)
  all_goals
    have HM3 := Lib.hid hm3
    have kk2 := Lib.hid hk2
    have kk3 := Lib.hid hk3
    clear hm3 hk2 hk3 hu c1' c1''
    go_wp2
    go_ret
    obtain ⟨n1, n2', n3⟩ := tx_lg HT.out HL.out
    have nb : NoB w2 [bmt] := G2.out.noB
    have hkk : Kp [] w w2 := (HKW.out.and (Kp.drew _)).and kk2.out
    refine ⟨aput al i (.slice a2 m2 n2), rfl, ⟨kk3.out.at G2.out.own (by simpa using n3), HM3.out, opts_set G2.out.opts kk3.out nb (by rw [HTL.out]; exact hi) (HO.out.bytes.kp kk3.out nb), fun x hx => ?_⟩, ?_, (hkk.mono (by simp)).and kk3.out⟩
    · rcases List.mem_or_eq_of_mem_set hx with hx | hx
      · exact HT.out.ml x hx
      · rw [Option.some.inj hx]; exact HBL.out
    · have hl2 := HL.out.kp0 hkk
      have hq := lg_dk hl2.lg hl2.dk
      obtain ⟨es, c, hmb, _⟩ := G2.out.mp
      obtain ⟨cs, al9, vt, hd9⟩ := hl2.dk
      refine hl2.kp kk3.out nb (fun x hx => ?_)
      obtain rfl : x = bmt := by simpa using hx
      refine ⟨n2', fun e => ?_, fun e => ?_, hx1, hx2⟩
      · have := hd9.own; rw [← e, hmb] at this; simp at this
      · have := hd9.row.1; rw [← e, hmb] at this; simp at this
end
end Go.Proofs.YtonkeialdfofcaaGreatDoor
