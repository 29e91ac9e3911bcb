/-
  The disk's Write: its contract.
-/
import Derived.Test.YtonkeialdfofcaaGreatDoorDk2
namespace Go.Proofs.YtonkeialdfofcaaGreatDoor
open Go.RowKit Go
section
variable {w : World} {p bl bm : Nat} {D : Dk} {cs : Array Value} {al : List (Int × Value)} {vt : Value}

theorem BytesAt.take {w : World} {v : Value} {bs : Bs} (h : BytesAt w v bs) (n : Nat) (hn : n ≤ bs.length) (b off cap : Nat) (hv : v = .slice (some ⟨b, off, none⟩) bs.length cap) : BytesAt w (.slice (some ⟨b, off, none⟩) n cap) (bs.take n) := by
  rcases h with ⟨h, _⟩ | ⟨b', off', cap', cs, fz, h1, h2, h3, h4, h5⟩
  · rw [hv] at h; simp at h
  · rw [hv] at h1
    simp only [Value.slice.injEq, Option.some.injEq, Addr.mk.injEq] at h1
    obtain ⟨⟨rfl, rfl, _⟩, _, rfl⟩ := h1
    have e : (bs.take n).length = n := by simp [hn]
    refine .inr ⟨b, off, cap, cs, fz, by rw [e], by rw [e]; omega, h3, h4, fun i hi => ?_⟩
    rw [e] at hi
    rw [h5 i (by omega)]
    simp [u8s, hi]

/-- The disk behind a write that is done. -/
theorem write_ok (hok : D.Ok) {b : Bs} {j : Nat} (_hj : j < D.lasts.length) (hb : b.length = 256) : Dk.Ok { D with waits := D.waits.set j (some b), writes := wrap64 (D.writes + 1) } := by
  obtain ⟨a, b', c, d, e, f, g, i, j', k, l⟩ := hok
  refine ⟨by simpa using a, b', c, d, fun x hx => ?_, f, g, i, j', k, l⟩
  rcases List.mem_or_eq_of_mem_set hx with h | h
  · exact e x h
  · rw [Option.some.inj h]; exact hb

theorem opts_set {w w' : World} {al : List (Int × Value)} {os : List (Option Bs)} {S : List Nat} (h : Opts w al os) (k : Kp S w w') (hn : NoB w S) {j : Nat} (hj : j < os.length) {v : Value} {b : Bs} (hb : BytesAt w' v b) : Opts w' (aput al j v) (os.set j (some b)) := by
  constructor
  · intro i u hu
    rw [alook_aput] at hu
    split at hu
    · rename_i e
      obtain rfl := Option.some.inj hu
      exact ⟨j, e.symm, b, by simp [hj], hb⟩
    · rename_i e
      obtain ⟨j', e', bs, h1, h2⟩ := h.1 i u hu
      refine ⟨j', e', bs, ?_, h2.kp k hn⟩
      rw [List.getElem?_set_ne (fun c => e (by omega))]
      exact h1
  · intro j' bs hj'
    rw [alook_aput]
    by_cases e : j = j'
    · subst e
      simp only [List.getElem?_set_self hj, Option.some.injEq] at hj'
      exact ⟨v, by simp, hj' ▸ hb⟩
    · rw [List.getElem?_set_ne e] at hj'
      obtain ⟨u, h1, h2⟩ := h.2 j' bs hj'
      exact ⟨u, by rw [if_neg (by omega)]; exact h1, h2.kp k hn⟩

theorem write_may {D : Dk} {i : Int} {b : Bs} (h : D.may i ≠ 0) : D.write i b = (D.may i, D) := by unfold Dk.write; rw [if_pos h]
theorem write_size {D : Dk} {i : Int} {b : Bs} (h : D.may i = 0) (hb : b.length ≠ 256) : D.write i b = (13, D) := by unfold Dk.write; rw [if_neg (by omega), if_pos hb]
theorem write_fails {D : Dk} {i : Int} {b : Bs} (h : D.may i = 0) (hb : b.length = 256) (hf : D.fails = true) : D.write i b = (12, { D.aft with way := i, torn := b.take D.part }) := by
  unfold Dk.write; rw [if_neg (by omega), if_neg (by omega), if_pos hf]
theorem write_goes {D : Dk} {i : Int} {b : Bs} (h : D.may i = 0) (hb : b.length = 256) (hf : D.fails = false) : D.write i b = (0, { D.aft with waits := D.waits.set i.toNat (some b), writes := wrap64 (D.writes + 1) }) := by
  unfold Dk.write; rw [if_neg (by omega), if_neg (by omega), if_neg (by simp [hf])]
theorem may_zero {D : Dk} {i : Int} (hm : D.may i = 0) : 0 ≤ i ∧ i < D.lasts.length ∧ D.dead = false := by
  unfold Dk.may Dk.len at hm
  split at hm
  · omega
  · rename_i h
    split at hm
    · omega
    · exact ⟨by omega, by omega, by simpa using h⟩

set_option maxHeartbeats 1000000 in
theorem dk_write_no (p bl bm : Nat) (D : Dk) (i : Int) (v : Value) (b : Bs) (w : World) (h : IsDk w p bl bm D) (hb : BytesAt w v b) (hm : D.may i ≠ 0 ∨ b.length ≠ 256) :
    Calls Tryz.prog 74 #[.pointer (some ⟨p, 0, none⟩), .int .i64 i, v] w fun e w' => e = .returned (.int .i64 (D.write i b).1) ∧ IsDk w' p bl bm (D.write i b).2 ∧ Kp [p, bm] w w' := by
  obtain ⟨a, cap, rfl⟩ := hb.slice
  have H := Lib.hid h
  by_cases hm0 : D.may i = 0
  · have hb : ((b.length : Int) != 256) = true := by rw [bne_iff_ne]; omega
    have hr := Lib.hid (write_size hm0 (hm.resolve_left (by omega)))
    have HM := Lib.hid hm0
    clear hm0 hm h
    go_enter Tryz.func74, Tryz.ntmps74
    go_wp2_with (go_at_call 118; refine (dk_may p bl bm D _ _ H.out).mono ?_; rintro e w' ⟨rfl, rfl⟩; rw [HM.out])
    go_ret
    exact ⟨by rw [hr.out]; rfl, by rw [hr.out]; exact H.out, Kp.refl _ _⟩
  · have hb : (D.may i != 0) = true := by rw [bne_iff_ne]; exact hm0
    have hr := Lib.hid (write_may (b := b) hm0)
    clear hm0 hm h
    generalize hM : D.may i = M at *
    have HE := Lib.hid hM
    clear hM
    go_enter Tryz.func74, Tryz.ntmps74
    go_wp2_with (go_at_call 118; refine (dk_may p bl bm D _ _ H.out).mono ?_; rintro e w' ⟨rfl, rfl⟩; rw [HE.out])
    go_ret
    exact ⟨by rw [hr.out]; rfl, by rw [hr.out]; exact H.out, Kp.refl _ _⟩

set_option maxHeartbeats 1000000 in
theorem dk_write_fails (p bl bm : Nat) (D : Dk) (i : Int) (v : Value) (b : Bs) (w : World) (h : IsDk w p bl bm D) (hb : BytesAt w v b) (hm : D.may i = 0) (hl : b.length = 256) (hf : D.fails = true) :
    Calls Tryz.prog 74 #[.pointer (some ⟨p, 0, none⟩), .int .i64 i, v] w fun e w' => e = .returned (.int .i64 (D.write i b).1) ∧ IsDk w' p bl bm (D.write i b).2 ∧ Kp [p, bm] w w' := by
  have hr := Lib.hid (write_fails hm hl hf)
  have H := Lib.hid h
  have hi := may_zero hm
  have hp := h.ok.part
  rcases hb with ⟨_, rfl⟩ | hb'
  · simp at hl
  have hb : BytesAt w v b := .inr hb'
  obtain ⟨b0, off, cap, cs0, fz, rfl, hcap, _⟩ := hb'
  have HB := Lib.hid hb
  have HL := Lib.hid hl
  have HM := Lib.hid hm
  have HF := Lib.hid hf
  have hcap' : 256 ≤ cap := by omega
  have hv : Value.slice (some ⟨b0, off, none⟩) b.length cap = .slice (some ⟨b0, off, none⟩) 256 cap := by rw [hl]
  rw [hv]
  clear hb hm hf hcap hv h hl
  go_enter Tryz.func74, Tryz.ntmps74
  go_wp2_with (first
    | (go_at_call 118; refine (dk_may p bl bm D _ _ H.out).mono ?_; rintro e w' ⟨rfl, rfl⟩; rw [HM.out])
    | (go_at_call 119; refine (dk_fails p bl bm D _ H.out).mono ?_; rintro e w1 ⟨rfl, ⟨cs1, al1, vt1, g1⟩, hk1⟩; rw [HF.out]; have c5 := cell_of g1.own 5 (v := .int .i64 D.aft.part) rfl; rw [aft_part] at c5; have G1 := Lib.hid g1; clear g1)
    | (go_at_call 82; refine (clone_b _ (b.take D.part) _ ?_ ?_).mono ?_))
  case refine_1 =>
    have h2 := (HB.out.take D.part (by rw [HL.out]; exact hp) b0 off cap rfl)
    obtain ⟨cs, al, vt, h⟩ := H.out
    simpa using h2.kp hk1 (noB1 h)
  case refine_2 => simp; omega
  rintro e w2 ⟨v2, rfl, ho2, hk2⟩
  have g2 := G1.out.kp0 hk2
  have c6 := cell_of g2.own 6 (v := .int .i64 D.aft.way) rfl
  have c7 := cell_of g2.own 7 (v := vt1) rfl
  have f6 := free_of g2.own 6
  have f7 := free_of g2.own 7
  have G2 := Lib.hid g2
  have HO := Lib.hid ho2
  clear g2 ho2
  obtain ⟨a2, m2, n2, rfl⟩ := HO.out.bytes.shape
  go_wp2
  go_ret
  have hk3 : Kp [p] w2 ((w2.setCell ⟨p, 6, none⟩ (.int .i64 i)).setCell ⟨p, 7, none⟩ (.slice a2 m2 n2)) := (Kp.setCell w2 ⟨p, 6, none⟩ _).and (Kp.setCell _ ⟨p, 7, none⟩ _)
  refine ⟨by rw [hr.out]; rfl, ?_, ?_⟩
  · rw [hr.out]
    refine ⟨cs1, al1, .slice a2 m2 n2, G2.out.other (vt' := .slice a2 m2 n2) hk3 (noB1 G2.out) (by simpa using G2.out.ne1.symm) (by simpa using G2.out.ne2.symm) ?_ rfl rfl ?_ ?_⟩
    · rw [blk_setCell (blk_setCell G2.out.own _ _)]; rfl
    · exact HO.out.bytes.kp hk3 (noB1 G2.out)
    · obtain ⟨q1, q2, q3, q4, q5, q6, q7, q8, q9, q10, q11⟩ := G2.out.ok
      exact ⟨q1, q2, q3, q4, q5, q6, q7, q8, by rw [aft_lasts]; exact hi.2.1, by simp; omega, fun c => by change i < 0 at c; omega⟩
  · exact ((hk1.trans hk2 (by simp)).trans hk3 (by simp)).mono (by simp)

set_option maxHeartbeats 1000000 in
theorem dk_write_goes (p bl bm : Nat) (D : Dk) (i : Int) (v : Value) (b : Bs) (w : World) (h : IsDk w p bl bm D) (hb : BytesAt w v b) (hm : D.may i = 0) (hl : b.length = 256) (hf : D.fails = false) :
    Calls Tryz.prog 74 #[.pointer (some ⟨p, 0, none⟩), .int .i64 i, v] w fun e w' => e = .returned (.int .i64 (D.write i b).1) ∧ IsDk w' p bl bm (D.write i b).2 ∧ Kp [p, bm] w w' := by
  have hr := Lib.hid (write_goes hm hl hf)
  have H := Lib.hid h
  have hi := may_zero hm
  obtain ⟨a0, cap, rfl⟩ := hb.slice
  have HB := Lib.hid hb
  have HL := Lib.hid hl
  have HM := Lib.hid hm
  have HF := Lib.hid hf
  have hv : ((b.length : Int) != 256) = false := by rw [hl]; rfl
  clear hb hm hf h hl
  go_enter Tryz.func74, Tryz.ntmps74
  go_wp2_with (first
    | (go_at_call 118; refine (dk_may p bl bm D _ _ H.out).mono ?_; rintro e w' ⟨rfl, rfl⟩; rw [HM.out])
    | (go_at_call 119; refine (dk_fails p bl bm D _ H.out).mono ?_; rintro e w1 ⟨rfl, hd1, hk1⟩; rw [HF.out]))
  obtain ⟨cs1, al1, vt1, g1⟩ := hd1
  have c1 := cell_of g1.own 1 (v := .map (some bm)) rfl
  have G1 := Lib.hid g1
  clear g1
  have n1 := noB1 (H.out.choose_spec.choose_spec.choose_spec)
  have hbk := HB.out.kp hk1 n1
  have HK := Lib.hid hbk
  clear hbk n1
  go_region_with (go_at_call 82; refine (clone_b _ b _ (by exact HK.out.kp0 (Kp.drew _)) (by rw [HL.out]; decide)).mono ?_; rintro e w2 ⟨v2, rfl, ho2, hk2⟩; obtain ⟨a2, m2, n2, rfl⟩ := ho2.bytes.shape; have g2 := (G1.out.kp0 (Kp.drew _)).kp0 hk2; have c1' := cell_of g2.own 1 (v := .map (some bm)) rfl; obtain ⟨w3, hu, hm3, hk3⟩ := run_mapUpdate (P := Tryz.prog) Tryz.underlying109 Tryz.underlying3 g2.mp i (.slice a2 m2 n2); have G2 := Lib.hid g2; have HO := Lib.hid ho2; clear g2 ho2)
  all_goals
    have o3 := hk3.at G2.out.own (by simpa using G2.out.ne2)
    have c8 := cell_of o3 8 (v := .int .i64 D.aft.writes) rfl
    have f8 := free_of o3 8
    rw [aft_writes] at c8
    have O3 := Lib.hid o3
    have HM3 := Lib.hid hm3
    have kk1 := Lib.hid hk1
    have kk2 := Lib.hid hk2
    have kk3 := Lib.hid hk3
    clear o3 hm3 hk1 hk2 hk3 hu c1 c1'
    go_wp2
    go_ret
    have hk4 := Kp.setCell w3 ⟨p, 8, none⟩ (.int .i64 (wrap64 (D.writes + 1)))
    have hk12 := ((Kp.drew w1).trans kk2.out (by simp))
    have hj : i.toNat < D.waits.length := by rw [H.out.ok.same]; omega
    have ei : ((i.toNat : Nat) : Int) = i := by omega
    have nb3 : NoB w2 [bm] := G2.out.mp.noB (NoB.nil _)
    have nb4 : NoB w3 [p] := NoB.cons O3.out (by simp) (NoB.nil _)
    have hb2 := HO.out.bytes
    refine ⟨by rw [hr.out]; rfl, ?_, ?_⟩
    · rw [hr.out]
      refine ⟨cs1, aput al1 i (.slice a2 m2 n2), vt1, ⟨?_, ?_, G1.out.capb, ?_, ?_, ?_, ?_⟩⟩
      · rw [blk_setCell O3.out]; rfl
      · have r2 := G2.out.row.kp kk3.out (by simpa using G2.out.ne3) nb3
        exact r2.kp hk4 (by simpa using G2.out.ne1.symm) nb4
      · exact HM3.out.kp hk4 (by simpa using G2.out.ne2.symm)
      · have ho := opts_set (G2.out.opts.kp kk3.out nb3) hk4 nb4 (j := i.toNat) (by rw [aft_waits]; exact hj) ((hb2.kp kk3.out nb3).kp hk4 nb4)
        rw [ei, aft_waits] at ho
        exact ho
      · exact (G2.out.torn.kp kk3.out nb3).kp hk4 nb4
      · have := write_ok (D := D.aft) H.out.ok.aft (b := b) (j := i.toNat) (by rw [aft_lasts]; omega) HL.out
        rw [aft_waits, aft_writes] at this
        exact this
    · have k1 : Kp [p, bm] w w2 := (kk1.out.mono (by simp)).trans hk12 (by simp)
      exact (k1.trans kk3.out (by simp)).trans hk4 (by simp)

theorem dk_write (p bl bm : Nat) (D : Dk) (i : Int) (v : Value) (b : Bs) (w : World) (h : IsDk w p bl bm D) (hb : BytesAt w v b) :
    Calls Tryz.prog 74 #[.pointer (some ⟨p, 0, none⟩), .int .i64 i, v] w fun e w' => e = .returned (.int .i64 (D.write i b).1) ∧ IsDk w' p bl bm (D.write i b).2 ∧ Kp [p, bm] w w' := by
  by_cases hm : D.may i ≠ 0 ∨ b.length ≠ 256
  · exact dk_write_no p bl bm D i v b w h hb hm
  · have h1 : D.may i = 0 := by omega
    have h2 : b.length = 256 := by omega
    cases hf : D.fails with
    | true => exact dk_write_fails p bl bm D i v b w h hb h1 h2 hf
    | false => exact dk_write_goes p bl bm D i v b w h hb h1 h2 hf
end
end Go.Proofs.YtonkeialdfofcaaGreatDoor
