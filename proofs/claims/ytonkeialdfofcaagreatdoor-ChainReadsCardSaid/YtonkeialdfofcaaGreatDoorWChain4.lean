/-
  The walk of the law ChainReads.
-/
import Derived.Test.YtonkeialdfofcaaGreatDoorArgs
import Derived.Test.YtonkeialdfofcaaGreatDoorBegun22
namespace Go.Proofs.YtonkeialdfofcaaGreatDoor
open Go.RowKit Go

theorem HomesAt.set {w w' : World} {b n k : Nat} {H : Nat → Bs} {cs : Array Value} {v : Value} {x : Bs} (hsz : cs.size = n) (hcs : ∀ i, i < n → ∃ vb, cs[i]? = some vb ∧ BytesAt w vb (H i)) (hb : w'.heap[b]? = some (.cells (cs.setIfInBounds k v) 30 (0, 0)))
    (hv : BytesAt w' v x) (hk : ∀ vb bs, BytesAt w vb bs → BytesAt w' vb bs) : HomesAt w' (.slice (some ⟨b, 0, none⟩) n n) n (fun j => if j = k then x else H j) := by
  refine ⟨b, _, rfl, hb, fun i hi => ?_⟩
  by_cases e : i = k
  · subst e
    refine ⟨v, by rw [Array.getElem?_setIfInBounds, if_pos rfl, if_pos (by omega)], ?_⟩
    show BytesAt w' v (if i = i then x else H i)
    rw [if_pos rfl]; exact hv
  · obtain ⟨vb, g1, g2⟩ := hcs i hi
    refine ⟨vb, by rw [Array.getElem?_setIfInBounds_ne (Ne.symm e)]; exact g1, ?_⟩
    show BytesAt w' vb (if i = k then x else H i)
    rw [if_neg e]
    exact hk _ _ g2

set_option maxHeartbeats 4000000 in
set_option maxRecDepth 20000 in
theorem chainReads_walk (ls : List Bs) (fi : Nat) (ats : Bs) (vl va : Value) (w : World) (hl : LaidOk w) (hL : InL w vl ls) (hA : InB w va ats) (hfi : fi < 4294967296) :
    Calls Tryz.prog 10 #[vl, .int .u32 fi, va] w fun e w' => e = .returned (.bool true) ∧ Kp [] w w' := by
  have HL := Lib.hid hl
  obtain ⟨a1, c1, rfl, n1, i1⟩ := hL
  obtain ⟨a2, c2, rfl, n2, i2⟩ := hA
  obtain ⟨nl, hnl⟩ : ∃ nl, ls.length = nl := ⟨_, rfl⟩
  obtain ⟨na, hna⟩ : ∃ na, ats.length = na := ⟨_, rfl⟩
  rw [hnl, hna]
  have HNL := Lib.hid hnl
  have HNA := Lib.hid hna
  have HN1 := Lib.hid n1
  have HI1 := Lib.hid i1
  have HN2 := Lib.hid n2
  have HI2 := Lib.hid i2
  clear hl hnl hna n1 i1 n2 i2
  by_cases hbig : 10 < nl ∨ 10 < na
  · have hcase : 10 < nl ∨ (¬ 10 < nl ∧ 10 < na) := by omega
    clear hbig
    rcases hcase with h1 | ⟨h0, h1⟩
    all_goals
      go_enter Tryz.func10, Tryz.ntmps10
      go_wp2_with (go_at_call 54; refine (begun22 _).mono ?_; rintro e w1 ⟨rfl, hk⟩; have HK1 := Lib.hid hk; clear hk)
      go_ret
      exact ⟨rfl, HK1.out⟩
  · have h1 : ¬ 10 < nl := by omega
    have h2 : ¬ 10 < na := by omega
    clear hbig
    have hmr := run_makeRow 34
    go_enter Tryz.func10, Tryz.ntmps10
    go_upto_region 7 with (first
      | (go_at_call 54; refine (begun22 _).mono ?_; rintro e w1 ⟨rfl, hk⟩; have HK1 := Lib.hid hk; clear hk)
      | (go_at_call 57; refine (law21_new 60 _ (by decide) (by decide)).mono ?_; rintro e w2 ⟨t, F, rfl, ht, hF, hk⟩; have HT := Lib.hid (show TxSys w2 t 34 freshH F from ht); have HF := Lib.hid hF; have HK2 := Lib.hid hk; clear ht hk hF)
      | (go_at_call 53; refine (ts_homes HT.out).mono ?_; rintro e w3 ⟨rfl, q, rfl⟩))
    · exfalso; omega
    obtain ⟨C, hC, hm⟩ := run_makeRow 34 (w2.drewN q) (by decide)
    have hm' : (Instr.makeSlice 88 (.int .i64 34) (.int .i64 34)).run Tryz.prog (w2.drewN q) = .ok (.slice (some ⟨(w2.drewN q).heap.size, 0, none⟩) 34 34) ((w2.drewN q).alloc (.cells C 30)) := hm
    obtain ⟨hb, hhb⟩ : ∃ hb, (w2.drewN q).heap.size = hb := ⟨_, rfl⟩
    obtain ⟨w3, hw3⟩ : ∃ w3, (w2.drewN q).alloc (.cells C 30) = w3 := ⟨_, rfl⟩
    rw [hhb, hw3] at hm'
    have hblk3 : w3.heap[hb]? = some (.cells C 30 (0, 0)) := by rw [← hw3, ← hhb]; exact blk_alloc_new _ _
    have hk03 : Kp [] w w3 := by rw [← hw3]; exact ((HK1.out.and HK2.out).and (Kp.drewN _ _)).and (Kp.alloc _ _)
    have ht3 : TxSys w3 t 34 freshH F := by rw [← hw3]; exact (HT.out.kp0 (Kp.drewN _ _)).kp0 (Kp.alloc _ _)
    have hbF : hb ∉ F := fun c => by have := HT.out.lt _ c; have e : (w2.drewN q).heap.size = w2.heap.size := rfl; omega
    have hFw : ∀ x ∈ F, w.heap.size ≤ x := fun x hx => by have := HF.out x hx; have := HK1.out.size; omega
    have hbw : w.heap.size ≤ hb := by have := HK1.out.size; have := HK2.out.size; have e : (w2.drewN q).heap.size = w2.heap.size := rfl; omega
    have HBF := Lib.hid hbF
    have HFW := Lib.hid hFw
    have HBW := Lib.hid hbw
    have HT3 := Lib.hid ht3
    have HK3 := Lib.hid hk03
    have HC := Lib.hid hC
    have HBLK3 := Lib.hid hblk3
    clear hm hhb hw3 hblk3 hk03 ht3 hbF hFw hbw hC hmr
    go_wp2
    clear hm'
    go_loopw [10] (fun x wr => ∃ (k : Nat) (cs : Array Value), x = .int .i64 k ∧ k ≤ 34 ∧ wr.heap[hb]? = some (.cells cs 30 (0, 0)) ∧ cs.size = 34 ∧ (∀ i, i < k → ∃ vb, cs[i]? = some vb ∧ BytesAt wr vb (freshH i)) ∧ TxSys wr t 34 freshH F ∧ Kp [] w wr) (fun x _ => 34 - (RowKit.intOf x).toNat)
    case atStart => exact ⟨0, C, rfl, by omega, HBLK3.out, HC.out, fun i hi => by omega, HT3.out, HK3.out⟩
    case round =>
      obtain ⟨k, cs, rfl, hk, hblk, hsz, hcs, hts, hkr⟩ := hrel
      have HTS := Lib.hid hts
      have HKR := Lib.hid hkr
      have HCS := Lib.hid hcs
      have HSZ := Lib.hid hsz
      have HBLK := Lib.hid hblk
      by_cases hlt : k < 34
      · clear hblk hts hkr hcs hsz
        go_wp2_with (go_at_call 47; refine (ts_read k HTS.out hlt).mono ?_; rintro e w5 ⟨v5, rfl, ho, ht, hk5⟩; obtain ⟨a5, n5, c5, rfl⟩ := ho.bytes.shape; have HO5 := Lib.hid ho.bytes; have HT5 := Lib.hid ht; have HK5 := Lib.hid hk5; have hb5 := hk5.at HBLK.out HBF.out; have cc5 := cell_of hb5 k (Array.getElem?_eq_getElem (by rw [HSZ.out]; exact hlt)); have ff5 := free_of hb5 k; have HB5 := Lib.hid hb5; clear ho ht hk5 hb5)
        have kk := Kp.setCell w5 ⟨hb, k, none⟩ (Value.slice a5 n5 c5)
        have nbb : NoB w5 [hb] := NoB.cons HB5.out (by simp) (NoB.nil w5)
        refine ⟨⟨k + 1, cs.setIfInBounds k (.slice a5 n5 c5), by simp, by omega, blk_setCell HB5.out _ _, by rw [Array.size_setIfInBounds]; exact HSZ.out, fun i hi => ?_, HT5.out.kpH kk HB5.out HSZ.out, ?_⟩, by simp only [RowKit.intOf]; omega⟩
        · by_cases e : i = k
          · subst e
            exact ⟨_, by rw [Array.getElem?_setIfInBounds, if_pos rfl, if_pos (by rw [HSZ.out]; exact hlt)], HO5.out.kp kk nbb⟩
          · obtain ⟨vb, g1, g2⟩ := HCS.out i (by omega)
            exact ⟨vb, by rw [Array.getElem?_setIfInBounds_ne (Ne.symm e)]; exact g1, (g2.kp HK5.out HTS.out.noB).kp kk nbb⟩
        · exact (HKR.out.trans HK5.out (fun x hx => .inr (HFW.out x hx))).trans kk (fun x hx => .inr (by simp at hx; rw [hx]; exact HBW.out))
      · have hkk : k = 34 := by omega
        subst hkk
        clear hblk hts hkr hcs hsz
        rw [show ((34 : Nat) : Int) = (34 : Int) from rfl]
        go_wp2
        go_loopw [11] (fun x wx => ∃ (k : Nat) (cs : Array Value) (H : Nat → Bs), x = .int .i64 k ∧ k ≤ nl ∧ wx.heap[hb]? = some (.cells cs 30 (0, 0)) ∧ cs.size = 34 ∧ (∀ i, i < 34 → ∃ vb, cs[i]? = some vb ∧ BytesAt wx vb (H i)) ∧ TxSys wx t 34 H F ∧ Kp [] w wx) (fun x _ => nl - (RowKit.intOf x).toNat)
        case atStart => exact ⟨0, cs, freshH, rfl, by omega, HBLK.out, HSZ.out, HCS.out, HTS.out, HKR.out⟩
        case round =>
          clear HTS HKR HCS HSZ HBLK
          obtain ⟨k, cs, H, rfl, hk, hblk, hsz, hcs, hts, hkr⟩ := hrel
          have HTS := Lib.hid hts
          have HKR := Lib.hid hkr
          have HCS := Lib.hid hcs
          have HSZ := Lib.hid hsz
          have HBLK := Lib.hid hblk
          by_cases hlt : k < nl
          · obtain ⟨b, hb⟩ : ∃ b, ls[k]? = some b := ⟨_, List.getElem?_eq_getElem (by rw [HNL.out]; exact hlt)⟩
            cases a1 with
            | none => exfalso; have e := HN1.out rfl; have e2 := HNL.out; rw [e] at e2; simp at e2; omega
            | some ad1 =>
            obtain ⟨u, hu, hub⟩ := HI1.out ad1 rfl k b hb
            have hub' := (hub.kp0 hkr).kp0 (Kp.alloc wr (.cells (zN 248) 5))
            obtain ⟨a3, c3, rfl, _, _⟩ := hub
            obtain ⟨w6, cc, hcp, hg6, hk6⟩ := run_copy_pad 3 (blk_alloc_new wr (.cells (zN 248) 5)) hub'
            generalize b.length = nb at *
            have hu1 := (hkr.and (Kp.alloc wr (.cells (zN 248) 5))).acell hu (by simp)
            have hmk : ∀ W : World, (Instr.makeSlice 30 (.int .i64 248) (.int .i64 248)).run Tryz.prog W = .ok (.slice (some ⟨W.heap.size, 0, none⟩) 248 248) (W.alloc (.cells (zN 248) 5)) := fun W => run_makeN 248 W (by decide)
            have hk06 : Kp [] wr w6 := (Kp.alloc wr (.cells (zN 248) 5)).trans hk6 (fun x hx => .inr (by simp at hx; omega))
            have hbb : BytesAt w6 (.slice (some ⟨wr.heap.size, 0, none⟩) 248 248) (padB b) := by
              have e := length_padB b
              refine .inr ⟨wr.heap.size, 0, 248, _, (0, 0), by rw [e], by omega, hg6, by simp [length_u8s, e], fun i _ => by simp⟩
            have HK6 := Lib.hid hk06
            have HBB := Lib.hid hbb
            clear hblk hts hkr hcs hsz hu hub' hb hg6 hk6 hk06 hbb
            by_cases hat : k < na
            · cases a2 with
              | none => exfalso; have e := HN2.out rfl; have e2 := HNA.out; rw [e] at e2; simp at e2; omega
              | some ad2 =>
              obtain ⟨x, hx⟩ : ∃ x, ats[k]? = some x := ⟨_, List.getElem?_eq_getElem (by rw [HNA.out]; exact hat)⟩
              have hxc := HKR.out.acell (HI2.out ad2 rfl k (bv x) (by rw [u8s_get, hx]; rfl)) (by simp)
              unfold bv at hxc
              have hx256 := x.toNat_lt
              generalize x.toNat = xn at *
              obtain ⟨y, hy, hy12⟩ : ∃ y : Nat, (xn : Int) % 12 = y ∧ y < 12 := ⟨xn % 12, by omega, by omega⟩
              obtain ⟨kk, hkk⟩ : ∃ kk : Nat, 2 + (y : Int) = (kk : Int) := ⟨2 + y, by omega⟩
              have HKK := Lib.hid (show kk < 34 by omega)
              clear hx
              go_wp2_with (go_at_call 45; refine (ts_write kk _ (padB b) (HTS.out.kp0 HK6.out) HKK.out HBB.out (length_padB b)).mono ?_; rintro e w7 ⟨rfl, ht, hk7⟩; have hb7 := (HK6.out.at HBLK.out (by simp)); have hb7 := hk7.at hb7 HBF.out; have cc7 := cell_of hb7 kk (Array.getElem?_eq_getElem (by rw [HSZ.out]; exact HKK.out)); have ff7 := free_of hb7 kk; have HB7 := Lib.hid hb7; have HT7 := Lib.hid ht; have HK7 := Lib.hid hk7; clear ht hk7 hb7)
              have kst := Kp.setCell w7 ⟨hb, kk, none⟩ (Value.slice (some ⟨wr.heap.size, 0, none⟩) 248 248)
              have nbb : NoB w7 [hb] := NoB.cons HB7.out (by simp) (NoB.nil w7)
              have hnew := blk_setCell HB7.out kk (Value.slice (some ⟨wr.heap.size, 0, none⟩) 248 248)
              refine ⟨⟨k + 1, cs.setIfInBounds kk (Value.slice (some ⟨wr.heap.size, 0, none⟩) 248 248), fun j => if j = kk then padB b else H j, by simp, by omega, hnew, by rw [Array.size_setIfInBounds]; exact HSZ.out, fun i hi => ?_, HT7.out.kpH kst HB7.out HSZ.out, ?_⟩, by simp only [RowKit.intOf]; omega⟩
              · by_cases e : i = kk
                · subst e
                  refine ⟨_, by rw [Array.getElem?_setIfInBounds, if_pos rfl, if_pos (by rw [HSZ.out]; exact hi)], ?_⟩
                  show BytesAt _ _ (if i = i then padB b else H i)
                  rw [if_pos rfl]
                  exact (HBB.out.kp HK7.out (HTS.out.kp0 HK6.out).noB).kp kst nbb
                · obtain ⟨vb, g1, g2⟩ := HCS.out i hi
                  refine ⟨vb, by rw [Array.getElem?_setIfInBounds_ne (Ne.symm e)]; exact g1, ?_⟩
                  show BytesAt _ _ (if i = kk then padB b else H i)
                  rw [if_neg e]
                  exact ((g2.kp0 HK6.out).kp HK7.out (HTS.out.kp0 HK6.out).noB).kp kst nbb
              · exact ((HKR.out.and HK6.out).trans HK7.out (fun x hx => .inr (HFW.out x hx))).trans kst (fun x hx => .inr (by simp at hx; rw [hx]; exact HBW.out))
            · obtain ⟨kk, hkk⟩ : ∃ kk : Nat, 2 + (k : Int) = (kk : Int) := ⟨2 + k, by omega⟩
              have HKK := Lib.hid (show kk < 34 by omega)
              go_wp2_with (go_at_call 45; refine (ts_write kk _ (padB b) (HTS.out.kp0 HK6.out) HKK.out HBB.out (length_padB b)).mono ?_; rintro e w7 ⟨rfl, ht, hk7⟩; have hb7 := (HK6.out.at HBLK.out (by simp)); have hb7 := hk7.at hb7 HBF.out; have cc7 := cell_of hb7 kk (Array.getElem?_eq_getElem (by rw [HSZ.out]; exact HKK.out)); have ff7 := free_of hb7 kk; have HB7 := Lib.hid hb7; have HT7 := Lib.hid ht; have HK7 := Lib.hid hk7; clear ht hk7 hb7)
              have kst := Kp.setCell w7 ⟨hb, kk, none⟩ (Value.slice (some ⟨wr.heap.size, 0, none⟩) 248 248)
              have nbb : NoB w7 [hb] := NoB.cons HB7.out (by simp) (NoB.nil w7)
              have hnew := blk_setCell HB7.out kk (Value.slice (some ⟨wr.heap.size, 0, none⟩) 248 248)
              refine ⟨⟨k + 1, cs.setIfInBounds kk (Value.slice (some ⟨wr.heap.size, 0, none⟩) 248 248), fun j => if j = kk then padB b else H j, by simp, by omega, hnew, by rw [Array.size_setIfInBounds]; exact HSZ.out, fun i hi => ?_, HT7.out.kpH kst HB7.out HSZ.out, ?_⟩, by simp only [RowKit.intOf]; omega⟩
              · by_cases e : i = kk
                · subst e
                  refine ⟨_, by rw [Array.getElem?_setIfInBounds, if_pos rfl, if_pos (by rw [HSZ.out]; exact hi)], ?_⟩
                  show BytesAt _ _ (if i = i then padB b else H i)
                  rw [if_pos rfl]
                  exact (HBB.out.kp HK7.out (HTS.out.kp0 HK6.out).noB).kp kst nbb
                · obtain ⟨vb, g1, g2⟩ := HCS.out i hi
                  refine ⟨vb, by rw [Array.getElem?_setIfInBounds_ne (Ne.symm e)]; exact g1, ?_⟩
                  show BytesAt _ _ (if i = kk then padB b else H i)
                  rw [if_neg e]
                  exact ((g2.kp0 HK6.out).kp HK7.out (HTS.out.kp0 HK6.out).noB).kp kst nbb
              · exact ((HKR.out.and HK6.out).trans HK7.out (fun x hx => .inr (HFW.out x hx))).trans kst (fun x hx => .inr (by simp at hx; rw [hx]; exact HBW.out))
          · have hkk : k = nl := by omega
            subst hkk
            obtain ⟨R, hR⟩ : ∃ R, getC 34 H fi = R := ⟨_, rfl⟩
            obtain ⟨rc, rl, rb⟩ := R
            have hRf : rc ≠ 0 → rb = [] := fun h => by have := getC_fail (n := 34) (H := H) fi (by rw [hR]; exact h); rwa [hR] at this
            have HR := Lib.hid hR
            have HRF := Lib.hid hRf
            have HOM := Lib.hid (show HomesAt wr (.slice (some ⟨hb, 0, none⟩) 34 34) 34 H from ⟨hb, cs, rfl, hblk, hcs⟩)
            have HLEN := Lib.hid hts.len
            clear hblk hts hkr hcs hsz hR hRf
            by_cases hz : rc = 0
            · subst hz
              go_wp2_with (first
                | (go_at_call 58; refine (law_read HOM.out HLEN.out (by decide) fi hfi _ HR.out).mono ?_; rintro e w7 ⟨vb7, rfl, hb7, hk7⟩; obtain ⟨a7, n7, c7, rfl⟩ := hb7.shape; have HB7 := Lib.hid hb7; have HK7 := Lib.hid hk7; have HT7 := Lib.hid (HTS.out.kp0 hk7); clear hb7 hk7)
                | (go_at_call 59; refine (chain_Get fi _ _ HT7.out hfi HR.out).mono ?_; rintro e w8 ⟨vb8, rfl, hb8, ht8, hk8⟩; obtain ⟨a8, n8, c8, rfl⟩ := hb8.bytes.shape; have hs8 := run_string_of _ _ w8 hb8.bytes; have hs7 := run_string_of _ _ w8 (HB7.out.kp hk8 HT7.out.noB); have HK8 := Lib.hid hk8; clear hb8 ht8 hk8))
              go_ret
              exact ⟨rfl, (HKR.out.and HK7.out).trans HK8.out (fun x hx => .inr (HFW.out x hx))⟩
            · obtain rfl := HRF.out hz
              have HLK := Lib.hid (HL.out.kp0 HKR.out)
              have HZ := Lib.hid hz
              clear hz
              go_wp2_with (first
                | (go_at_call 58; refine (law_read HOM.out HLEN.out (by decide) fi hfi _ HR.out).mono ?_; rintro e w7 ⟨vb7, rfl, hb7, hk7⟩; obtain ⟨a7, n7, c7, rfl⟩ := hb7.shape; have HB7 := Lib.hid hb7; have HK7 := Lib.hid hk7; have HT7 := Lib.hid (HTS.out.kp0 hk7); have HL7 := Lib.hid (HLK.out.kp0 hk7); clear hb7 hk7)
                | (go_at_call 59; refine (chain_Get_no fi _ _ _ HT7.out HL7.out hfi HR.out HZ.out).mono ?_; rintro e w8 ⟨rfl, ht8, hk8⟩; have hs8 := run_string_of _ _ w8 (BytesAt.nil w8); have hs7 := run_string_of _ _ w8 (HB7.out.kp hk8 HT7.out.noB); have HK8 := Lib.hid hk8; clear ht8 hk8))
              go_ret
              exact ⟨rfl, (HKR.out.and HK7.out).trans HK8.out (fun x hx => .inr (HFW.out x hx))⟩
end Go.Proofs.YtonkeialdfofcaaGreatDoor
