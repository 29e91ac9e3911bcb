/-
  chain: Put without room and of too many bytes; Get of what is no chain; Drop.
-/
import Derived.Test.YtonkeialdfofcaaGreatDoorSpaceLaw
import Derived.Test.YtonkeialdfofcaaGreatDoorAsChain
namespace Go.Proofs.YtonkeialdfofcaaGreatDoor
open Go.RowKit Go

section
variable {w : World} {t n : Nat} {H : Nat → Bs} {F : List Nat}

theorem IsCE.form {w : World} {v : Value} {c : Int} (h : IsCE w v c) (hc : c ≠ 0) : ∃ T x, v = .iface T x := AsChain.IsE.form (show AsChain.IsE w v c from h) hc
theorem chain_code (v : Value) (c : Int) (w : World) (h : IsCE w v c) (hl : LaidOk w) :
    Calls Tryz.prog 113 #[v] w fun e w' => e = .returned (.int .i64 c) ∧ Kp [] w w' := AsChain.code_ok v c w h hl

set_option maxHeartbeats 1000000 in
theorem chain_puts_long (v : Value) (b : Bs) (hb : BytesAt w v b) (hbl : 9680 < b.length) :
    Calls Tryz.prog 114 #[.pointer (some ⟨t, 0, none⟩), v] w fun e w' => ∃ v, e = .returned (.tuple #[.int .i64 0, v]) ∧ IsCE w' v 4 ∧ Kp [] w w' := by
  obtain ⟨a, c, rfl⟩ := hb.slice
  generalize b.length = m at *
  clear hb
  go_enter Tryz.func114, Tryz.ntmps114
  go_wp2_with (go_at_call 146; refine (chain_bad 4 _ (by decide)).mono ?_; rintro e w3 ⟨v3, rfl, he, hk3⟩)
  go_ret2
  exact ⟨_, rfl, he, hk3⟩

set_option maxHeartbeats 2000000 in
theorem chain_puts_full (v : Value) (b : Bs) (h : TxSys w t n H F) (hlo : LaidOk w) (hn : 1 < n) (hb : BytesAt w v b) (hbl : b.length ≤ 9680) (htk : tkB n (longN b.length) (H 1) = none) :
    Calls Tryz.prog 114 #[.pointer (some ⟨t, 0, none⟩), v] w fun e w' => ∃ v H', e = .returned (.tuple #[.int .i64 0, v]) ∧ IsCE w' v 9 ∧ TxSys w' t n H' F ∧ Kp F w w' := by
  obtain ⟨a, c, rfl⟩ := hb.slice
  generalize hm : b.length = m at *
  have HS := Lib.hid h
  have HLO := Lib.hid hlo
  have HTK := Lib.hid htk
  generalize hK : longN m = K at *
  have HKK := Lib.hid hK
  have hKhi : K ≤ 40 := by rw [← hK]; unfold longN; omega
  have hFlt := Lib.hid h.lt
  clear h hb htk hm hK hlo
  go_enter Tryz.func114, Tryz.ntmps114
  go_wp2_with (go_at_call 55; refine (chain_long _ _ (by omega)).mono ?_; rintro e w1 ⟨rfl, rfl⟩; rw [show ((m : Int).toNat) = m from rfl, HKK.out])
  go_loopw [22, 6] (fun x hv wr => ∃ (k : Nat) (l : List Nat) (bits : Bs), x = .int .i64 k ∧ k ≤ K ∧ OwnI wr w.heap.size hv l ∧ l.length = k ∧ tkB n (K - k) bits = none ∧ TxSys wr t n (fun j => if j = 1 then bits else H j) F ∧ Kp F w wr) (fun x _ _ => K - (intOf x).toNat)
  case atStart =>
    refine ⟨0, [], H 1, rfl, by omega, World.ownsRow_nil _ _ _ _, rfl, HTK.out, HS.out.congr (fun i _ => ?_), Kp.refl _ _⟩
    by_cases e : i = 1
    · simp [e]
    · simp [e]
  case round =>
    obtain ⟨k, l, bits, rfl, hkK, hown, hlen, htk, hts, hkr⟩ := hrel
    obtain ⟨a0, c0, rfl⟩ := hown.shape
    have hkk : k < K := by
      apply Classical.byContradiction
      intro hge
      rw [show K - k = 0 by omega] at htk
      simp [tkB] at htk
    obtain ⟨K1, hK1⟩ : ∃ K1, K - k = K1 + 1 := ⟨K - k - 1, by omega⟩
    rw [hK1] at htk
    have HO := Lib.hid hown
    have HT := Lib.hid hts
    have HKR := Lib.hid hkr
    have HLE := Lib.hid hlen
    have HK1 := Lib.hid hK1
    have HLR := Lib.hid (HLO.out.sys HS.out hkr)
    rcases tkB_none_succ htk with hfree | ⟨i, hfree, htk'⟩
    · have HFR := Lib.hid hfree
      clear hown hts hkr hfree htk hlen hK1
      go_wp2_with (first
        | (go_at_call 148; refine (space_Take_full HT.out hn HFR.out HLR.out).mono ?_; rintro e w1 ⟨rfl, ht1, hk1⟩; have HT1 := Lib.hid ht1; have HK1' := Lib.hid hk1; clear ht1 hk1)
        | (go_at_call 146; refine (chain_bad 9 _ (by decide)).mono ?_; rintro e w3 ⟨v3, rfl, he, hk3⟩))
      go_ret2
      exact ⟨_, _, rfl, he, HT1.out.kp0 hk3, (HKR.out.and HK1'.out).and (hk3.mono (by simp))⟩
    · have HFR := Lib.hid hfree
      have HTK' := Lib.hid htk'
      clear hown hts hkr hfree htk htk' hlen hK1
      go_wp2_with (first
        | (go_at_call 148; refine (space_Take i HT.out hn HFR.out).mono ?_; rintro e w1 ⟨rfl, ht1, hk1⟩; have HT1 := Lib.hid ht1; have HK1' := Lib.hid hk1; clear ht1 hk1)
        | (at_builtin; refine wpList_append_int rfl _ _ rfl w.heap.size _ l i _ _ rfl rfl ((HO.out.kp HK1'.out (fun x hx c => by have := (HO.out.lt x hx).1; have := hFlt.out x c; omega)).kp0 (Kp.alloc _ _)) (cell_of (blk_alloc_new _ _) 0 rfl) (by rw [HLE.out]; omega) (by have := HKR.out.size; have := HK1'.out.size; simp; omega) ?_))
      intro v2 w2 ho2 hk2
      obtain ⟨a2, c2, rfl⟩ := ho2.shape
      have HO2 := Lib.hid ho2
      have HK2 := Lib.hid hk2
      clear ho2 hk2
      go_wp2
      have hto := (HO.out.kp HK1'.out (fun x hx c => by have := (HO.out.lt x hx).1; have := hFlt.out x c; omega)).kp0 (Kp.alloc w1 (Obj.cells #[Value.int IntKind.i64 i] 3))
      refine ⟨⟨k + 1, l ++ [i], turnB bits i, by simp, by omega, HO2.out, by rw [List.length_append, HLE.out]; rfl, ?_, ?_, ?_⟩, ?_⟩
      · rw [show K - (k + 1) = K1 by have := HK1.out; omega]; exact HTK'.out
      · refine ((HT1.out.kp0 (Kp.alloc _ _)).kpI HK2.out hto.ints).congr fun j _ => ?_
        by_cases e : j = 1
        · subst e; rfl
        · simp [e]
      · exact ((HKR.out.and HK1'.out).and ((Kp.alloc _ _).mono (by simp))).trans HK2.out (fun x hx => .inr (hto.lt x hx).1)
      · simp only [intOf]; omega

set_option maxHeartbeats 1000000 in
theorem chain_Put_full (v : Value) (b : Bs) (h : TxSys w t n H F) (hlo : LaidOk w) (hn : 1 < n) (hb : BytesAt w v b) (hbl : b.length ≤ 9680) (htk : tkB n (longN b.length) (H 1) = none) :
    Calls Tryz.prog 60 #[.pointer (some ⟨t, 0, none⟩), v] w fun e w' => ∃ H', e = .returned (.tuple #[.int .u32 0, .int .i64 9]) ∧ TxSys w' t n H' F ∧ Kp F w w' := by
  have HP := Lib.hid (chain_puts_full v b h hlo hn hb hbl htk)
  have HS := Lib.hid h
  have HLO := Lib.hid hlo
  obtain ⟨a, c, rfl⟩ := hb.slice
  generalize b.length = m at *
  clear h hb htk hlo
  go_enter Tryz.func60, Tryz.ntmps60
  go_wp2_with (first
    | (go_at_call 114; refine HP.out.mono ?_; rintro e w1 ⟨v1, H1, rfl, he, ht, hk⟩; have HE := Lib.hid he; have HT := Lib.hid ht; have HK := Lib.hid hk; obtain ⟨T0, x0, rfl⟩ := he.form (by decide); clear he ht hk)
    | (go_at_call 113; refine (chain_code _ 9 _ HE.out (HLO.out.sys HS.out HK.out)).mono ?_; rintro e w2 ⟨rfl, hk2⟩))
  go_ret2
  exact ⟨_, rfl, HT.out.kp0 hk2, HK.out.and (hk2.mono (by simp))⟩

set_option maxHeartbeats 1000000 in
theorem chain_Put_long (v : Value) (b : Bs) (hlo : LaidOk w) (hb : BytesAt w v b) (hbl : 9680 < b.length) :
    Calls Tryz.prog 60 #[.pointer (some ⟨t, 0, none⟩), v] w fun e w' => e = .returned (.tuple #[.int .u32 0, .int .i64 4]) ∧ Kp [] w w' := by
  have HP := Lib.hid (chain_puts_long (t := t) v b hb hbl)
  have HLO := Lib.hid hlo
  obtain ⟨a, c, rfl⟩ := hb.slice
  generalize b.length = m at *
  clear hb hlo
  go_enter Tryz.func60, Tryz.ntmps60
  go_wp2_with (first
    | (go_at_call 114; refine HP.out.mono ?_; rintro e w1 ⟨v1, rfl, he, hk⟩; have HE := Lib.hid he; have HK := Lib.hid hk; obtain ⟨T0, x0, rfl⟩ := he.form (by decide); clear he hk)
    | (go_at_call 113; refine (chain_code _ 4 _ HE.out (HLO.out.kp0 HK.out)).mono ?_; rintro e w2 ⟨rfl, hk2⟩))
  go_ret2
  exact ⟨rfl, HK.out.and hk2⟩

set_option maxHeartbeats 1000000 in
theorem chain_Get_no (first : Nat) (c : Nat) (l : List Nat) (b : Bs) (h : TxSys w t n H F) (hlo : LaidOk w) (hf : first < 4294967296) (hR : getC n H first = (c, l, b)) (hc : c ≠ 0) :
    Calls Tryz.prog 59 #[.pointer (some ⟨t, 0, none⟩), .int .u32 first] w fun e w' => e = .returned (.tuple #[.slice none 0 0, .int .i64 c]) ∧ TxSys w' t n H F ∧ Kp F w w' := by
  have HG := Lib.hid (chain_gets first _ h hf hR)
  have HS := Lib.hid h
  have HLO := Lib.hid hlo
  have HC := Lib.hid (show (c : Int) ≠ 0 by omega)
  clear h hR hlo hc
  go_enter Tryz.func59, Tryz.ntmps59
  go_wp2_with (first
    | (go_at_call 112; refine HG.out.mono ?_; rintro e w1 ⟨vl, vb, ve, rfl, hl, hb, he, ht, hk⟩; obtain ⟨a1, c1, rfl⟩ := hl.shape; obtain ⟨a2, n2, c2, rfl⟩ := hb.bytes.shape; have HE := Lib.hid he; obtain ⟨T0, x0, rfl⟩ := he.form HC.out; have HT := Lib.hid ht; have HK := Lib.hid hk; clear hl hb he ht hk)
    | (go_at_call 113; refine (chain_code _ c _ HE.out (HLO.out.sys HS.out HK.out)).mono ?_; rintro e w2 ⟨rfl, hk2⟩))
  go_ret2
  exact ⟨rfl, HT.out.kp0 hk2, HK.out.and (hk2.mono (by simp))⟩

/-- What Drop makes of the homes of a chain: a code, the bits. -/
def dropB (n : Nat) : List Nat → Bs → Int × Bs
  | [], b => (0, b)
  | i :: l, b => if 2 ≤ i ∧ i < n ∧ hasB b i = true then dropB n l (turnB b i) else (1, b)

set_option maxHeartbeats 2000000 in
theorem chain_Drop (first : Nat) (L : List Nat) (b : Bs) (h : TxSys w t n H F) (hn : 1 < n) (hf : first < 4294967296) (hR : getC n H first = (0, L, b)) (hL40 : L.length ≤ 40) :
    Calls Tryz.prog 63 #[.pointer (some ⟨t, 0, none⟩), .int .u32 first] w fun e w' => e = .returned (.int .i64 (dropB n L (H 1)).1) ∧ TxSys w' t n (fun j => if j = 1 then (dropB n L (H 1)).2 else H j) F ∧ Kp F w w' := by
  have HG := Lib.hid (chain_gets first _ h hf hR)
  have hFlt := Lib.hid h.lt
  have hhi := h.hi
  generalize hD : dropB n L (H 1) = D
  have HD := Lib.hid hD
  clear h hR hD
  go_enter Tryz.func63, Tryz.ntmps63
  go_wp2_with (go_at_call 112; refine HG.out.mono ?_; rintro e w1 ⟨vl, vb, ve, rfl, hl, hb, he, ht, hk⟩; obtain rfl := he.zero; obtain ⟨a1, c1, rfl⟩ := hl.shape; obtain ⟨a2, n2, c2, rfl⟩ := hb.bytes.shape; have HL := Lib.hid hl; have HT := Lib.hid ht; have HK := Lib.hid hk; clear hl hb he ht hk)
  go_loopw [24] (fun x wr => ∃ (k : Nat) (bits : Bs), x = .int .i64 k ∧ k ≤ L.length ∧ dropB n (L.drop k) bits = D ∧ TxSys wr t n (fun j => if j = 1 then bits else H j) F ∧ Kp F w1 wr) (fun x _ => L.length - (intOf x).toNat)
  case atStart =>
    refine ⟨0, H 1, rfl, by omega, HD.out, HT.out.congr (fun i _ => ?_), Kp.refl _ _⟩
    by_cases e : i = 1
    · simp [e]
    · simp [e]
  case round =>
    obtain ⟨k, bits, rfl, hkL, hdr, hts, hkr⟩ := hrel
    have HTS := Lib.hid hts
    have HKR := Lib.hid hkr
    by_cases hlt : k < L.length
    · obtain ⟨i, hi⟩ : ∃ i, L[k]? = some i := ⟨_, List.getElem?_eq_getElem hlt⟩
      have hd : L.drop k = i :: L.drop (k + 1) := by
        rw [List.drop_eq_getElem_cons hlt]
        congr 1
        exact (Option.some.inj ((List.getElem?_eq_getElem hlt).symm.trans hi))
      rw [hd] at hdr
      obtain ⟨g, cg, he⟩ := HL.out.addr (by omega)
      simp only [Value.slice.injEq, true_and] at he
      obtain ⟨rfl, rfl⟩ := he
      have hog := HL.out.kp hkr (fun x hx c => by have := (HL.out.lt x hx).1; have := hFlt.out x c; omega)
      have c0 : wr.cell? ⟨g, k, none⟩ = some (.int .i64 (i : Int)) := by simpa using hog.cell k i hi
      clear hog hi hd
      by_cases hc : 2 ≤ i ∧ i < n ∧ hasB bits i = true
      · have hdr2 : dropB n (L.drop (k + 1)) (turnB bits i) = D := by rw [dropB, if_pos hc] at hdr; exact hdr
        have HDR := Lib.hid hdr2
        obtain ⟨q1, q2, q3⟩ := hc
        have HQ := Lib.hid q3
        clear hdr hdr2 hts hkr q3
        go_wp2_with (go_at_call 117; refine (space_Free_ok i HTS.out hn q1 q2 HQ.out).mono ?_; rintro e w2 ⟨rfl, ht2, hk2⟩; have HT2 := Lib.hid ht2; have HK2 := Lib.hid hk2; clear ht2 hk2)
        refine ⟨⟨k + 1, turnB bits i, by simp, by omega, HDR.out, HT2.out.congr (fun j _ => ?_), HKR.out.and HK2.out⟩, ?_⟩
        · by_cases e : j = 1
          · subst e; rfl
          · simp [e]
        · simp only [intOf]; omega
      · have hdr2 : (1, bits) = D := by rw [dropB, if_neg hc] at hdr; exact hdr
        have HDR := Lib.hid hdr2
        have hno : (i : Int) < 2 ∨ (n : Int) ≤ i ∨ hasB bits (i : Int).toNat = false := by
          rw [Int.toNat_natCast]
          cases hb : hasB bits i with
          | false => exact .inr (.inr rfl)
          | true => have : ¬ (2 ≤ i ∧ i < n) := fun c => hc ⟨c.1, c.2, hb⟩; omega
        have HNO := Lib.hid hno
        clear hdr hdr2 hts hkr hc hno
        go_wp2_with (go_at_call 117; refine (space_Free_no i HTS.out hn (by simpa using HNO.out)).mono ?_; rintro e w2 ⟨rfl, ht2, hk2⟩; have HT2 := Lib.hid ht2; have HK2 := Lib.hid hk2; clear ht2 hk2)
        go_ret
        rw [← HDR.out]
        exact ⟨rfl, HT2.out, (HK.out.and HKR.out).and HK2.out⟩
    · have hk' : k = L.length := by omega
      have hdr2 : (0, bits) = D := by rw [List.drop_eq_nil_of_le (by omega)] at hdr; exact hdr
      have HDR := Lib.hid hdr2
      clear hdr hdr2 hts hkr
      go_wp2
      go_ret
      rw [← HDR.out]
      exact ⟨rfl, HTS.out, HK.out.and HKR.out⟩

theorem chain_DropD (first : Nat) (L : List Nat) (b : Bs) (c : Int) (B : Bs) (h : TxSys w t n H F) (hn : 1 < n) (hf : first < 4294967296) (hR : getC n H first = (0, L, b)) (hL40 : L.length ≤ 40) (hD : dropB n L (H 1) = (c, B)) :
    Calls Tryz.prog 63 #[.pointer (some ⟨t, 0, none⟩), .int .u32 first] w fun e w' => e = .returned (.int .i64 c) ∧ TxSys w' t n (fun j => if j = 1 then B else H j) F ∧ Kp F w w' := by
  have := chain_Drop first L b h hn hf hR hL40
  rw [hD] at this
  exact this

set_option maxHeartbeats 1000000 in
theorem chain_Drop_no (first : Nat) (c : Nat) (l : List Nat) (b : Bs) (h : TxSys w t n H F) (hlo : LaidOk w) (hf : first < 4294967296) (hR : getC n H first = (c, l, b)) (hc : c ≠ 0) :
    Calls Tryz.prog 63 #[.pointer (some ⟨t, 0, none⟩), .int .u32 first] w fun e w' => e = .returned (.int .i64 c) ∧ TxSys w' t n H F ∧ Kp F w w' := by
  have HG := Lib.hid (chain_gets first _ h hf hR)
  have HS := Lib.hid h
  have HLO := Lib.hid hlo
  have HC := Lib.hid (show (c : Int) ≠ 0 by omega)
  clear h hR hlo hc
  go_enter Tryz.func63, Tryz.ntmps63
  go_wp2_with (first
    | (go_at_call 112; refine HG.out.mono ?_; rintro e w1 ⟨vl, vb, ve, rfl, hl, hb, he, ht, hk⟩; obtain ⟨a1, c1, rfl⟩ := hl.shape; obtain ⟨a2, n2, c2, rfl⟩ := hb.bytes.shape; have HE := Lib.hid he; obtain ⟨T0, x0, rfl⟩ := he.form HC.out; have HT := Lib.hid ht; have HK := Lib.hid hk; clear hl hb he ht hk)
    | (go_at_call 113; refine (chain_code _ c _ HE.out (HLO.out.sys HS.out HK.out)).mono ?_; rintro e w2 ⟨rfl, hk2⟩))
  go_ret
  exact ⟨rfl, HT.out.kp0 hk2, HK.out.and (hk2.mono (by simp))⟩
end
end Go.Proofs.YtonkeialdfofcaaGreatDoor
