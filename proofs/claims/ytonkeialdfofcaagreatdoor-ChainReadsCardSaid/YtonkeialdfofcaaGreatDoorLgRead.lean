/-
  The log's Read: its contract.
-/
import Derived.Test.YtonkeialdfofcaaGreatDoorLg2
namespace Go.Proofs.YtonkeialdfofcaaGreatDoor
open Go.RowKit Go

/-- A slice of bytes of the call's own, wherever it begins. -/
def OwnS (w : World) (base : Nat) (v : Value) (bs : List UInt8) : Prop :=
  (v = .slice none 0 0 ∧ bs = []) ∨
  ∃ b off cap cs, v = .slice (some ⟨b, off, none⟩) bs.length cap ∧ bs.length ≤ cap ∧ base ≤ b ∧ w.heap[b]? = some (.cells cs 5 (0, 0)) ∧ off + cap ≤ cs.size ∧ ∀ i, i < bs.length → cs[off + i]? = (u8s bs)[i]?

theorem OwnS.bytes {w : World} {base : Nat} {v : Value} {bs : List UInt8} (h : OwnS w base v bs) : BytesAt w v bs := by
  rcases h with h | ⟨b, off, cap, cs, h1, h2, _, h3, h4⟩
  · exact .inl h
  · exact .inr ⟨b, off, cap, cs, (0, 0), h1, h2, h3, h4⟩
theorem OwnB.ownS {w : World} {base : Nat} {v : Value} {bs : List UInt8} (h : OwnB w base v bs) : OwnS w base v bs := by
  obtain ⟨h1, h2 | ⟨g, cap, cur, rfl, hb, hg, hn, hm, hs, ht⟩⟩ := h
  · obtain ⟨rfl, h2⟩ := h2
    exact .inl ⟨rfl, List.eq_nil_of_length_eq_zero h2⟩
  · refine .inr ⟨g, 0, cap, cur, rfl, hn, hb, hg, by omega, fun i hi => ?_⟩
    rw [← ht, List.getElem?_take, if_pos (by omega)]
    simp
theorem OwnS.kp {S : List Nat} {w w' : World} {base : Nat} {v : Value} {bs : List UInt8} (h : OwnS w base v bs) (k : Kp S w w') (hn : NoB w S) : OwnS w' base v bs := by
  rcases h with h | ⟨b, off, cap, cs, h1, h2, h0, h3, h4⟩
  · exact .inl h
  · exact .inr ⟨b, off, cap, cs, h1, h2, h0, k.at h3 (fun c => hn b c cs _ h3), h4⟩
theorem OwnS.kp0 {w w' : World} {base : Nat} {v : Value} {bs : List UInt8} (h : OwnS w base v bs) (k : Kp [] w w') : OwnS w' base v bs := h.kp k (NoB.nil w)
theorem OwnS.mono {w : World} {base base' : Nat} {v : Value} {bs : List UInt8} (h : OwnS w base v bs) (hb : base' ≤ base) : OwnS w base' v bs := by
  rcases h with h | ⟨b, off, cap, cs, h1, h2, h0, h3⟩
  · exact .inl h
  · exact .inr ⟨b, off, cap, cs, h1, h2, by omega, h3⟩

theorem OwnB.at {w : World} {base : Nat} {v : Value} {bs : List UInt8} (h : OwnB w base v bs) {n : Nat} (hn : bs.length = n) (h0 : 0 < n) :
    ∃ g cap cur, v = .slice (some ⟨g, 0, none⟩) n cap ∧ n ≤ cap ∧ base ≤ g ∧ w.heap[g]? = some (.cells cur 5 (0, 0)) ∧ cap ≤ cur.size ∧ ∀ i, i < n → cur[i]? = (u8s bs)[i]? := by
  subst hn
  obtain ⟨h1, h2 | ⟨g, cap, cur, rfl, hb, hg, hn, hm, hs, ht⟩⟩ := h
  · omega
  · refine ⟨g, cap, cur, rfl, hn, hb, hg, by omega, fun i hi => ?_⟩
    rw [← ht, List.getElem?_take, if_pos (by omega)]
    simp

/-- What a home reads as. -/
def Lg.hm (L : Lg) (D : Dk) (i : Nat) : Bs := match L.m.getD i none with | some b => b | none => (D.sec (2 + L.ring + i)).drop 8

section
variable {w : World} {l p bl bm bm' : Nat} {L : Lg} {D : Dk} {al : List (Int × Value)}

theorem IsDk.kpl {w' : World} (hd : IsDk w p bl bm D) (hl : IsLg w l p bm' L) (k : Kp [l] w w') : IsDk w' p bl bm D := by
  obtain ⟨n1, n2, n3, _⟩ := lg_dk hl hd
  exact hd.kp k hl.noB1 (by simpa using n1.symm) (by simpa using n2.symm) (by simpa using n3.symm)

set_option maxHeartbeats 1000000 in
theorem lg_Read_no (i : Int) (h : IsLg w l p bm' L) (hd : IsDk w p bl bm D) (hm : L.may D ≠ 0) :
    Calls Tryz.prog 22 #[.pointer (some ⟨l, 0, none⟩), .int .i64 i] w fun e w' => e = .returned (.tuple #[.slice none 0 0, .int .i64 (L.may D)]) ∧ Kp [] w w' := by
  have HL := Lib.hid h
  have HD := Lib.hid hd
  have hb : (L.may D != 0) = true := by rw [bne_iff_ne]; exact hm
  clear h hd hm
  go_enter Tryz.func22, Tryz.ntmps22
  go_wp2_with (go_at_call 79; refine (lg_may HL.out HD.out).mono ?_; rintro e w' ⟨rfl, n, rfl⟩)
  go_ret2
  exact ⟨rfl, Kp.drewN _ _⟩

set_option maxHeartbeats 1000000 in
theorem lg_Read_arg (i : Int) (h : IsLg w l p bm' L) (hd : IsDk w p bl bm D) (hm : L.may D = 0) (hi : i < 0 ∨ L.homes D ≤ i) :
    Calls Tryz.prog 22 #[.pointer (some ⟨l, 0, none⟩), .int .i64 i] w fun e w' => e = .returned (.tuple #[.slice none 0 0, .int .i64 1]) ∧ Kp [] w w' := by
  have HL := Lib.hid h
  have HD := Lib.hid hd
  have HM := Lib.hid hm
  clear h hd hm
  by_cases h0 : i < 0
  · clear hi
    go_enter Tryz.func22, Tryz.ntmps22
    go_wp2_with (go_at_call 79; refine (lg_may HL.out HD.out).mono ?_; rintro e w' ⟨rfl, n, rfl⟩; rw [HM.out])
    go_ret2
    exact ⟨rfl, Kp.drewN _ _⟩
  · have h1 : L.homes D ≤ i := by omega
    clear hi
    go_enter Tryz.func22, Tryz.ntmps22
    go_wp2_with (first
      | (go_at_call 79; refine (lg_may HL.out HD.out).mono ?_; rintro e w' ⟨rfl, n, rfl⟩; rw [HM.out])
      | (go_at_call 83; refine (lg_homes (HL.out.kp0 (Kp.drewN _ _)) (HD.out.kp0 (Kp.drewN _ _))).mono ?_; rintro e w' ⟨rfl, n2, rfl⟩))
    go_ret2
    exact ⟨rfl, Kp.drewN _ _⟩

set_option maxHeartbeats 2000000 in
theorem lg_Read_ok (i : Nat) (h : IsLg w l p bm' L) (hd : IsDk w p bl bm D) (hm : L.may D = 0) (hdead : D.dead = false) (hi : (i : Int) < L.homes D) (hml : ∀ b, some b ∈ L.m → b.length = 248) :
    Calls Tryz.prog 22 #[.pointer (some ⟨l, 0, none⟩), .int .i64 i] w fun e w' => ∃ v, e = .returned (.tuple #[v, .int .i64 0]) ∧ OwnS w' w.heap.size v (L.hm D i) ∧ IsLg w' l p bm' L ∧ Kp [l] w w' := by
  have HL := Lib.hid h
  have HD := Lib.hid hd
  have HM := Lib.hid hm
  have hhi := hd.ok.hi
  have hi' : 2 + L.ring + i < D.lasts.length := by unfold Lg.homes Dk.len at hi; omega
  have hmay : D.may (((2 + L.ring + i : Nat)) : Int) = 0 := by unfold Dk.may Dk.len; rw [hdead]; simp; omega
  have hsl := sec_len hd.ok _ hi'
  obtain ⟨al, hl⟩ := h
  have c8 := cell_of hl.own 8 (v := .map (some bm')) rfl
  have hrb := hl.rhi
  cases hlk : alook al i with
  | some u =>
    obtain ⟨j, e, b, g1, g2⟩ := hl.opts.1 _ _ hlk
    obtain rfl : i = j := by omega
    have hE : L.hm D i = b := by simp [Lg.hm, List.getD, g1]
    have hbl := hml b (List.mem_of_getElem? g1)
    have HE := Lib.hid hE
    have HBL := Lib.hid hbl
    have HB := Lib.hid g2
    have hlook : ∀ n, (Instr.lookup 109 (.map (some bm')) (.int .i64 i) true).run Tryz.prog (w.drewN n) = .ok (.tuple #[u, .bool true]) (w.drewN n) := fun n => run_look_some (P := Tryz.prog) Tryz.underlying109 Tryz.underlying3 (hl.mp.kp (Kp.drewN w n) (by simp)) hlk true
    obtain ⟨a, n0, cp, rfl⟩ := g2.shape
    clear hd hm hl hlk g1 g2 hE hbl hml hmay hsl
    go_enter Tryz.func22, Tryz.ntmps22
    go_wp2_with (first
      | (go_at_call 79; refine (lg_may HL.out HD.out).mono ?_; rintro e w' ⟨rfl, n, rfl⟩; rw [HM.out])
      | (go_at_call 83; refine (lg_homes (HL.out.kp0 (Kp.drewN _ _)) (HD.out.kp0 (Kp.drewN _ _))).mono ?_; rintro e w' ⟨rfl, n2, rfl⟩)
      | (go_at_call 82; refine (clone_b _ b _ (HB.out.kp0 (Kp.drewN _ _)) (by rw [HBL.out]; decide)).mono ?_; rintro e w1 ⟨v1, rfl, ho, hk⟩))
    go_ret2
    refine ⟨_, rfl, ?_, HL.out.kp0 ((Kp.drewN _ _).and hk), ((Kp.drewN _ _).and hk).mono (by simp)⟩
    rw [HE.out]
    exact ho.ownS
  | none =>
    have hm0 : L.m.getD i none = none := by
      cases hw : L.m[i]? with
      | none => simp [List.getD, hw]
      | some ob =>
        cases ob with
        | none => simp [List.getD, hw]
        | some b =>
          obtain ⟨v', h3, _⟩ := hl.opts.2 i b hw
          rw [hlk] at h3; simp at h3
    have hE : L.hm D i = (D.sec (2 + L.ring + i)).drop 8 := by unfold Lg.hm; rw [hm0]
    have HE := Lib.hid hE
    have HSL := Lib.hid hsl
    have HMY := Lib.hid hmay
    have hlook : ∀ n, (Instr.lookup 109 (.map (some bm')) (.int .i64 i) true).run Tryz.prog (w.drewN n) = .ok (.tuple #[.slice none 0 0, .bool false]) (w.drewN n) := fun n => run_look_none (P := Tryz.prog) Tryz.underlying109 Tryz.underlying3 (hl.mp.kp (Kp.drewN w n) (by simp)) (zero30 _) hlk true
    have hir : (i : Int) ≤ 1900 := by omega
    have eh : ((2 + L.ring + i : Nat) : Int) = 2 + (L.ring : Int) + (i : Int) := by omega
    have EH := Lib.hid eh
    clear hd hm hl hlk hE hml hmay hsl hm0 eh
    go_enter Tryz.func22, Tryz.ntmps22
    go_wp2_with (first
      | (go_at_call 79; refine (lg_may HL.out HD.out).mono ?_; rintro e w' ⟨rfl, n, rfl⟩; rw [HM.out])
      | (go_at_call 83; refine (lg_homes (HL.out.kp0 (Kp.drewN _ _)) (HD.out.kp0 (Kp.drewN _ _))).mono ?_; rintro e w' ⟨rfl, n2, rfl⟩)
      | (go_at_call 85; refine (lg_home (HL.out.kp0 (Kp.drewN _ _)) _ (by omega) (by omega)).mono ?_; rintro e w' ⟨rfl, rfl⟩)
      | (go_at_call 84; rw [← EH.out]; refine (lg_read l p bl bm bm' L D _ _ (HL.out.kp0 (Kp.drewN _ _)) (HD.out.kp0 (Kp.drewN _ _))).mono ?_; rintro e w1 ⟨v1, v2, rfl, he, ho, hl1, hk1⟩; rw [HMY.out] at he ho hl1; rw [show L.did 0 = L by unfold Lg.did; simp] at hl1; obtain rfl := he.zero; have ho' := ho rfl; rw [Int.toNat_natCast] at ho'; obtain ⟨g, cap, cur, rfl, e2, e3', e3, e5, e6⟩ := ho'.at HSL.out (by decide); have E3 := Lib.hid e3; have E6 := Lib.hid e6; have HL1 := Lib.hid hl1; clear e3 e6 hl1 ho ho'))
    go_ret2
    have hk : Kp [l] w w1 := ((Kp.drewN _ _).mono (by simp)).and hk1
    refine ⟨_, rfl, ?_, HL1.out, hk⟩
    rw [HE.out]
    have hl8 : ((D.sec (2 + L.ring + i)).drop 8).length = 248 := by rw [List.length_drop, HSL.out]
    refine .inr ⟨g, 8, cap - 8, cur, by rw [hl8]; rfl, by rw [hl8]; omega, by simpa using e3', E3.out, by omega, fun j hj => ?_⟩
    rw [hl8] at hj
    rw [E6.out (8 + j) (by omega)]
    simp [u8s]
end
end Go.Proofs.YtonkeialdfofcaaGreatDoor
