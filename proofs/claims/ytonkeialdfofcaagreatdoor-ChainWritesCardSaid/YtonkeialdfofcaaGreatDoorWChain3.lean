/-
  The walk of the law ChainWrites.
-/
import Derived.Test.YtonkeialdfofcaaGreatDoorChainLaw2
import Derived.Test.YtonkeialdfofcaaGreatDoorWChain
import Derived.Test.YtonkeialdfofcaaGreatDoorFill
import Derived.BigQuiet
namespace Go.Proofs.YtonkeialdfofcaaGreatDoor
open Go.RowKit Go

theorem Kp.fresh {S : List Nat} {w w' : World} (h : Kp S w w') (hS : ∀ x ∈ S, w.heap.size ≤ x) : Kp [] w w' :=
  ⟨h.os, h.tape, h.output, h.size, fun k hk _ => h.blk k hk fun c => by have := hS k c; omega⟩
theorem bv_ofNat (m : Nat) : bv (UInt8.ofNat m) = .int .u8 ((m % 256 : Nat) : Int) := by simp [bv]

theorem Kp.sizeKp {b : Nat} {w w0 w' : World} (h : Kp [b] w w') (k : Kp [] w0 w) (hb : w0.heap.size ≤ b) : Kp [] w0 w' := k.trans h (fun x hx => .inr (by simp at hx; omega))
theorem part_cut2 (b : Bs) (k p : Nat) (h : p = min 242 (b.length - k * 242)) : (b.drop (k * 242)).take p = partB b k := by
  unfold partB
  rw [h]
  apply List.ext_getElem?
  intro j
  simp only [List.getElem?_take, List.getElem?_drop]
  by_cases h1 : j < min 242 (b.length - k * 242)
  · rw [if_pos h1, if_pos (by omega)]
  · rw [if_neg h1]
    by_cases h3 : j < 242
    · rw [if_pos h3]; symm; rw [List.getElem?_eq_none_iff]; omega
    · rw [if_neg h3]
theorem linkB_small (nx : Nat) (P : Bs) (h1 : nx < 256) (h2 : P.length < 256) : linkB nx P = [UInt8.ofNat nx, 0, 0, 0, UInt8.ofNat P.length, 0] ++ (P ++ zeros (242 - P.length)) := by
  have e1 : putN 4 nx = [UInt8.ofNat nx, 0, 0, 0] := by
    have a : nx / 256 = 0 := by omega
    simp [putN, a]
  have e2 : putN 2 P.length = [UInt8.ofNat P.length, 0] := by
    have a : P.length / 256 = 0 := by omega
    simp [putN, a]
  simp [linkB, e1, e2]
theorem link_head (nx : Nat) (P : Bs) (h1 : nx < 256) (h2 : P.length < 256) :
    (linkB nx P)[0]? = some (UInt8.ofNat nx) ∧ (linkB nx P)[1]? = some 0 ∧ (linkB nx P)[2]? = some 0 ∧ (linkB nx P)[3]? = some 0 ∧ (linkB nx P)[4]? = some (UInt8.ofNat P.length) ∧ (linkB nx P)[5]? = some 0 := by
  rw [linkB_small nx P h1 h2]
  exact ⟨rfl, rfl, rfl, rfl, rfl, rfl⟩
theorem link_tail (nx : Nat) (P : Bs) (h1 : nx < 256) (h2 : P.length ≤ 242) (i : Nat) (hi : 6 + P.length ≤ i) (hi2 : i < 248) : (linkB nx P)[i]? = some 0 := by
  rw [linkB_small nx P h1 (by omega), List.getElem?_append_right (by simp; omega), List.getElem?_append_right (by simp; omega)]
  simp only [zeros, List.getElem?_replicate, List.length_cons, List.length_nil]
  rw [if_pos (by omega)]
theorem OwnS.at_ {w : World} {base : Nat} {v : Value} {S : Bs} {n : Nat} (h : OwnS w base v S) (hn : S.length = n) (h0 : 0 < n) :
    ∃ b off cap cs, v = .slice (some ⟨b, off, none⟩) n cap ∧ n ≤ cap ∧ base ≤ b ∧ w.heap[b]? = some (.cells cs 5 (0, 0)) ∧ off + cap ≤ cs.size ∧ ∀ j, j < n → cs[off + j]? = (u8s S)[j]? := by
  subst hn
  rcases h with ⟨_, rfl⟩ | ⟨b, off, cap, cs, h1, h2, h3, h4, h5, h6⟩
  · simp at h0
  · exact ⟨b, off, cap, cs, h1, h2, h3, h4, h5, h6⟩
theorem bv_small (m : Nat) (h : m < 256) : bv (UInt8.ofNat m) = .int .u8 (m : Int) := by rw [bv_ofNat, Nat.mod_eq_of_lt h]

set_option maxHeartbeats 4000000 in
set_option maxRecDepth 20000 in
theorem chainWrites_walk (a x : Nat) (w : World) (hl : LaidOk w) (ha : a < 65536) (_hx : x < 256) :
    Calls Tryz.prog 11 #[.int .u16 a, .int .u8 x] w fun e w' => e = .returned (.bool true) ∧ Kp [] w w' := by
  have HL := Lib.hid hl
  obtain ⟨z, hz, hz2⟩ : ∃ z : Nat, (a : Int) % 9681 = z ∧ z ≤ 9680 := ⟨a % 9681, by omega, by omega⟩
  obtain ⟨K, hK⟩ : ∃ K, longN z = K := ⟨_, rfl⟩
  obtain ⟨f, hf⟩ : ∃ f : Nat → UInt8, f = fun i => UInt8.ofNat (x + i * 3) := ⟨_, rfl⟩
  have cva : IntKind.i64.wrap (a : Int) = a := IntWalk.i64_in _ (by omega)
  have hmk := fun w => run_makeN z w (by omega)
  have hZL := length_fillL f z
  have hbl : (freshH 1).length = 248 := length_bitsB
  have hlf : leftB (freshH 1) 94 = 92 := left_fresh 94 (by omega)
  have hK40 : K ≤ 40 := by rw [← hK]; unfold longN; omega
  obtain ⟨L, B', htk⟩ := tkB_total (n := 94) K (freshH 1) hbl (by omega)
  obtain ⟨i0, hi⟩ := tkB_first htk (by rw [← hK]; exact longN_pos z)
  have htk' : tkB 94 (longN (fillL f z).length) (freshH 1) = some (L, B') := by rw [hZL, hK]; exact htk
  obtain ⟨p1, p2, p3, p4, p5, p6, p7⟩ := put_chain hbl (by rw [hZL]; omega) htk'
  generalize hH1 : laid L (fillL f z) (fun j => if j = 1 then B' else freshH j) (longN (fillL f z).length) = H1 at *
  have HPut := fun (w : World) (t : Nat) (F : List Nat) (v : Value) (h : TxSys w t 94 freshH F) (hb : BytesAt w v (fillL f z)) => chain_Put v (fillL f z) i0 L B' h (by decide) hb (by rw [hZL]; omega) htk' hi
  rw [hH1] at HPut
  have HP := Lib.hid HPut
  have HZL := Lib.hid hZL
  have hLK : L.length = K := by rw [tkB_len htk]
  have HC := Lib.hid p1
  have HB1 := Lib.hid (fun j (hj : j ∈ L) => show hasB (H1 1) j = true by rw [p2, p6 j]; simp [hj])
  have hi0 : L.getD 0 0 = i0 := by simp [List.getD, hi]
  have HI0 := Lib.hid hi0
  have HLK := Lib.hid hLK
  have HFF := Lib.hid hf
  have hKz := Lib.hid hK
  have hKpos : 1 ≤ K := by rw [← hK]; exact longN_pos z
  clear HPut hZL hH1 htk htk' hbl hlf p1 p2 p3 p4 p5 p6 p7 hi hLK hK hi0 hl hf
  go_enter Tryz.func11, Tryz.ntmps11
  go_wp2_with (first
    | (go_at_call 54; refine (begun22 _).mono ?_; rintro e w1 ⟨rfl, hk⟩; have HK1 := Lib.hid hk; clear hk)
    | (go_at_call 57; refine (law21_new 120 _ (by decide) (by decide)).mono ?_; rintro e w2 ⟨t, F, rfl, ht, hF, hk⟩; have HT := Lib.hid (show TxSys w2 t 94 freshH F from ht); have HF := Lib.hid hF; have HK2 := Lib.hid hk; clear ht hk hF))
  go_loopw [7] (fun i wr => ∃ k : Nat, i = .int .i64 k ∧ k ≤ z ∧ wr.heap[w2.heap.size]? = some (.cells (fillC f z k) 5 (0, 0)) ∧ Kp [] w2 wr) (fun i _ => z - (intOf i).toNat)
  case atStart => exact ⟨0, rfl, by omega, by rw [fillC_zero]; exact blk_alloc_new _ _, Kp.alloc _ _⟩
  case round =>
    obtain ⟨k, rfl, hkz, hblk, hkr⟩ := hrel
    have HBK := Lib.hid hblk
    have HKR := Lib.hid hkr
    by_cases hlt : k < z
    · have c0 := cell_of hblk k (fillC_at f z k hlt)
      have f0 := free_of hblk k
      clear hblk hkr
      go_wp2
      refine ⟨⟨k + 1, by simp, by omega, fill_block HBK.out hlt _ ?_, (Kp.setCell wr ⟨w2.heap.size, k, none⟩ _).sizeKp HKR.out (Nat.le_refl _)⟩, ?_⟩
      · rw [HFF.out, bv_ofNat, show (((x + k * 3) % 256 : Nat) : Int) = ((x : Int) + (k : Int) * 3) % 256 by omega]
      · simp only [intOf]; omega
    · have hkk : k = z := by omega
      subst hkk
      clear hblk hkr
      go_wp2_with (go_at_call 60; refine (HP.out _ _ F _ (HT.out.kp0 HKR.out) (fill_bytes HBK.out)).mono ?_; rintro e w4 ⟨rfl, ht, hk⟩; have hvb := (fill_bytes HBK.out).kp hk (HT.out.kp0 HKR.out).noB; have HVB := Lib.hid hvb; have HT4 := Lib.hid ht; have HK4 := Lib.hid hk; clear ht hk hvb)
      go_loopw [10, 11, 12] (fun h at_ nn wx => ∃ q lo i : Nat, h = .int .u32 (i : Int) ∧ at_ = .int .i64 (lo : Int) ∧ nn = .int .i64 (q : Int) ∧ q < L.length ∧ lo = q * 242 ∧ i = L.getD q 0 ∧ Kp F w4 wx ∧ TxSys wx t 94 H1 F) (fun _ _ nn _ => 41 - (intOf nn).toNat)
      case atStart => exact ⟨0, 0, i0, rfl, rfl, rfl, by rw [HLK.out]; omega, rfl, HI0.out.symm, Kp.refl _ _, HT4.out⟩
      case round =>
        obtain ⟨q, lo, i, rfl, rfl, rfl, hq, hlo, hi, hkx, htx⟩ := hrel
        obtain ⟨nx, hnx⟩ : ∃ nx, L.getD (q + 1) 0 = nx := ⟨_, rfl⟩
        obtain ⟨P, hP⟩ : ∃ P, partB (fillL f k) q = P := ⟨_, rfl⟩
        obtain ⟨p, hp⟩ : ∃ p, P.length = p := ⟨_, rfl⟩
        have hat := HC.out.at_ q hq
        rw [← hi, hnx, hP] at hat
        have him := HC.out.lt i (by rw [hi]; exact getD_mem hq)
        have hpl : p = min 242 (k - lo) := by rw [← hp, ← hP, length_partB, HZL.out, hlo]
        have hKz' := hKz.out
        have hLK' := HLK.out
        have hnx94 : nx < 94 := by
          by_cases h1 : q + 1 < L.length
          · have := HC.out.lt nx (by rw [← hnx]; exact getD_mem h1); omega
          · have : nx = 0 := by rw [← hnx]; simp [List.getD, List.getElem?_eq_none (show L.length ≤ q + 1 by omega)]
            omega
        have hlok : lo ≤ k := by unfold longN at hKz'; omega
        have hcase : (nx ≠ 0 ∧ q + 1 < L.length ∧ p = 242 ∧ lo + 242 = (q + 1) * 242) ∨ (nx = 0 ∧ lo + p = k) := by
          by_cases h1 : q + 1 < L.length
          · have := (HC.out.lt nx (by rw [← hnx]; exact getD_mem h1)).1
            refine .inl ⟨by omega, h1, ?_, by omega⟩
            unfold longN at hKz'; omega
          · refine .inr ⟨by rw [← hnx]; simp [List.getD, List.getElem?_eq_none (show L.length ≤ q + 1 by omega)], ?_⟩
            unfold longN at hKz'; omega
        obtain ⟨e0, e1, e2, e3, e4, e5⟩ := link_head nx P (by omega) (by omega)
        have etail := link_tail nx P (by omega) (by omega)
        obtain ⟨_, _, e6⟩ := link_nums nx P (by omega) (by omega)
        have elen := length_linkB nx P (by omega)
        rw [← hat] at e0 e1 e2 e3 e4 e5 etail e6 elen
        have hbt := HB1.out i (by rw [hi]; exact getD_mem hq)
        have hbc : (fillL f k).length = k := HZL.out
        have hcut := HVB.out.cut lo (lo + p) (by omega) (by rw [hbc]; omega)
        rw [show lo + p - lo = p by omega] at hcut
        have hPe : ((fillL f k).drop lo).take p = P := by
          rw [← hP, hlo]
          exact part_cut2 _ _ _ (by rw [hbc, ← hlo]; exact hpl)
        rw [hPe] at hcut
        obtain ⟨vc, hsl, hbv⟩ := hcut
        rw [hp] at e4 e6 etail
        have HE := Lib.hid (And.intro e0 (And.intro e1 (And.intro e2 (And.intro e3 (And.intro e4 e5)))))
        have HET := Lib.hid etail
        have HE6 := Lib.hid e6
        have HEL := Lib.hid elen
        have HBT := Lib.hid hbt
        have HKX := Lib.hid hkx
        have HTX := Lib.hid htx
        have HCASE := Lib.hid hcase
        have HPL := Lib.hid hpl
        have HNX := Lib.hid hnx
        have HQ := Lib.hid hq
        have HLO := Lib.hid hlo
        have HBV := Lib.hid hbv
        have hsl' : ∀ W, (Instr.slice 30 (.slice (some ⟨w2.heap.size, 0, none⟩) k k) (some (.int .i64 lo)) (some (.int .i64 ((lo : Int) + (p : Int)))) none).run Tryz.prog W = .ok vc W := fun W => by have := hsl W; rwa [show ((lo + p : Nat) : Int) = (lo : Int) + (p : Int) by omega] at this
        have hp242 : p ≤ 242 := by omega
        have hq40 : q < 40 := by omega
        have hmin : min ((k : Int) - (lo : Int)) 242 = (p : Int) := by omega
        have cvi : IntKind.i64.wrap (i : Int) = i := IntWalk.i64_in _ (by omega)
        obtain ⟨ac, ncc, cc, rfl⟩ := hbv.shape
        clear e0 e1 e2 e3 e4 e5 etail e6 elen hbt hbc hcase hpl hat hi hlo hnx hP hp hkx htx hKz' hLK' hq hsl hbv hPe hz
        have hi94 := him.2
        go_wp2_with (first
          | (go_at_call 47; refine (ts_read i HTX.out hi94).mono ?_; rintro e w5 ⟨v5, rfl, ho, ht, hk⟩; obtain ⟨b0, off, cap, cs, rfl, hcap, _, hblk5, hsz, hcs⟩ := ho.at_ HEL.out (by decide); have HSB := Lib.hid ho.bytes; have HB5 := Lib.hid hblk5; have HCS := Lib.hid hcs; have HT5 := Lib.hid ht; have HK5 := Lib.hid hk; clear ho ht hk hblk5 hcs hsz)
          | (go_at_call 61; refine (space_Taken (i : Int) HT5.out (by decide)).mono ?_; rintro e w6 ⟨he, ht, hk⟩; rw [if_pos (by omega), Int.toNat_natCast, HBT.out] at he; subst he; have hb6 := hk.at HB5.out (fun c => HT5.out.noB _ c _ _ HB5.out); have c0 := cell_of hb6 (off + 0) (v := .int .u8 (nx : Int)) (by rw [HCS.out 0 (by decide), u8s_get, HE.out.1]; exact congrArg some (bv_small nx (by omega))); have c1 := cell_of hb6 (off + 1) (v := .int .u8 0) (by rw [HCS.out 1 (by decide), u8s_get, HE.out.2.1]; rfl); have c2 := cell_of hb6 (off + 2) (v := .int .u8 0) (by rw [HCS.out 2 (by decide), u8s_get, HE.out.2.2.1]; rfl); have c3 := cell_of hb6 (off + 3) (v := .int .u8 0) (by rw [HCS.out 3 (by decide), u8s_get, HE.out.2.2.2.1]; rfl); have c4 := cell_of hb6 (off + 4) (v := .int .u8 (p : Int)) (by rw [HCS.out 4 (by decide), u8s_get, HE.out.2.2.2.2.1]; exact congrArg some (bv_small p (by omega))); have c5 := cell_of hb6 (off + 5) (v := .int .u8 0) (by rw [HCS.out 5 (by decide), u8s_get, HE.out.2.2.2.2.2]; rfl); rw [Nat.add_zero] at c0; have HB6 := Lib.hid hb6; have HT6 := Lib.hid ht; have HK6 := Lib.hid hk; clear ht hk hb6))
        go_quiet (fail)
        go_wp2
        go_quiet (fail)
        have hsb6 := HSB.out.kp HK6.out HT5.out.noB
        obtain ⟨vs, hss, hsv⟩ := hsb6.cut 6 (6 + p) (by omega) (by rw [HEL.out]; omega)
        rw [show 6 + p - 6 = p by omega, HE6.out] at hsv
        have hss' : ∀ W, (Instr.slice 30 (.slice (some ⟨b0, off, none⟩) 248 cap) (some (.int .i64 6)) (some (.int .i64 (6 + (p : Int)))) none).run Tryz.prog W = .ok vs W := fun W => by have := hss W; rwa [show ((6 + p : Nat) : Int) = 6 + (p : Int) by omega] at this
        obtain ⟨as_, ns_, cs_, rfl⟩ := hsv.shape
        have hbv6 := (HBV.out.kp HKX.out HT4.out.noB).kp HK5.out HTX.out.noB |>.kp HK6.out HT5.out.noB
        have hst1 := fun m => run_string_of _ _ (w6.drewN m) (hsv.kp0 (Kp.drewN w6 m))
        have hst2 := fun m => run_string_of _ _ (w6.drewN m) (hbv6.kp0 (Kp.drewN w6 m))
        have hg1 : decide ((248 : Int) < 6 + (p : Int)) = false := by simp; omega
        have hsum : IntKind.i64.wrap (6 + (p : Int)) = 6 + p := IntWalk.i64_in _ (by omega)
        have hsum2 : IntKind.i64.wrap ((lo : Int) + (p : Int)) = lo + p := IntWalk.i64_in _ (by omega)
        have hw6 := Lib.hid (And.intro hsv hbv6)
        clear hss hsv hbv6 hsb6
        go_wp2
        all_goals
          first
          | (have hb0 : ((p : Int) != 242) = false := by have := HPL.out; simp; omega)
          | (have hb0 : ((p : Int) != (k : Int) - (lo : Int)) = false := by have := HPL.out; simp; omega)
          go_quiet (fail)
          go_wp2
          go_loopw [20] (fun mm wz => ∃ m : Nat, mm = .int .i64 (m : Int) ∧ 6 + p ≤ m ∧ m ≤ 248 ∧ Kp [] w6 wz) (fun mm _ => 248 - (intOf mm).toNat)
          case atStart => exact ⟨6 + p, by simp, Nat.le_refl _, by omega, Kp.drewN _ _⟩
          case round =>
            obtain ⟨m, rfl, hm1, hm2, hkz2⟩ := hrel
            have HKZ := Lib.hid hkz2
            clear hkz2
            by_cases hlt2 : m < 248
            · have cm := cell_of (HKZ.out.at HB6.out (by simp)) (off + m) (v := .int .u8 0) (by rw [HCS.out m hlt2, u8s_get, HET.out m hm1 hlt2]; rfl)
              go_wp2
              all_goals refine ⟨⟨m + 1, by simp, by omega, by omega, HKZ.out⟩, by simp only [intOf]; omega⟩
            · have hm : m = 248 := by omega
              subst hm
              rcases HCASE.out with ⟨hA, hB, hC, hD⟩ | ⟨hA, hB⟩
              · have hb1 : ((nx : Int) == 0) = false := beq_eq_false_iff_ne.2 (by omega)
                have HH := Lib.hid (And.intro hB (And.intro hC hD))
                clear hA hB hC hD
                go_wp2
                refine ⟨⟨q + 1, lo + p, nx, rfl, by simp, by simp, HH.out.1, by have := HH.out; omega, HNX.out.symm, ((HKX.out.and HK5.out).and HK6.out).and (HKZ.out.mono (by simp)), HT6.out.kp0 HKZ.out⟩, by simp only [intOf]; omega⟩
              · have hb1 : ((nx : Int) == 0) = true := beq_iff_eq.2 (by omega)
                have hb2 : (((lo : Int) + (p : Int)) == (k : Int)) = true := beq_iff_eq.2 (by omega)
                clear hA hB
                go_wp2
                go_ret
                have hf : ∀ x ∈ F, w.heap.size ≤ x := fun x hx => by have := HF.out x hx; have := HK1.out.size; omega
                exact ⟨rfl, ((HK1.out.and HK2.out).and HKR.out).trans (((HK4.out.and HKX.out).and HK5.out).and (HK6.out.and (HKZ.out.mono (by simp)))) (fun x hx => .inr (hf x hx))⟩
end Go.Proofs.YtonkeialdfofcaaGreatDoor
