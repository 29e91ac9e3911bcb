/-
  scriptorylaw22.read: a chain's bytes by the document's words: what gets reads.
-/
import Derived.Test.YtonkeialdfofcaaGreatDoorGet
import Derived.BigQuiet
namespace Go.Proofs.YtonkeialdfofcaaGreatDoor
open Go.RowKit Go

/-- A slice of n homes that reads as H. -/
def HomesAt (w : World) (v : Value) (n : Nat) (H : Nat → Bs) : Prop :=
  ∃ b cs, v = .slice (some ⟨b, 0, none⟩) n n ∧ w.heap[b]? = some (.cells cs 30 (0, 0)) ∧ ∀ i, i < n → ∃ vb, cs[i]? = some vb ∧ BytesAt w vb (H i)

theorem HomesAt.kp0 {w w' : World} {v : Value} {n : Nat} {H : Nat → Bs} (h : HomesAt w v n H) (k : Kp [] w w') : HomesAt w' v n H := by
  obtain ⟨b, cs, h1, h2, h3⟩ := h
  refine ⟨b, cs, h1, k.at h2 (by simp), fun i hi => ?_⟩
  obtain ⟨vb, g1, g2⟩ := h3 i hi
  exact ⟨vb, g1, g2.kp0 k⟩

theorem head_nums (b : Bs) (hl : 6 ≤ b.length) : ∃ x0 x1 x2 x3 x4 x5 : Nat, x0 < 256 ∧ x1 < 256 ∧ x2 < 256 ∧ x3 < 256 ∧ x4 < 256 ∧ x5 < 256 ∧
    (u8s b)[0]? = some (.int .u8 (x0 : Int)) ∧ (u8s b)[1]? = some (.int .u8 (x1 : Int)) ∧ (u8s b)[2]? = some (.int .u8 (x2 : Int)) ∧ (u8s b)[3]? = some (.int .u8 (x3 : Int)) ∧ (u8s b)[4]? = some (.int .u8 (x4 : Int)) ∧ (u8s b)[5]? = some (.int .u8 (x5 : Int)) ∧
    numAt b 0 4 = x0 + 256 * x1 + 65536 * x2 + 16777216 * x3 ∧ numAt b 4 2 = x4 + 256 * x5 := by
  match b, hl with
  | a0 :: a1 :: a2 :: a3 :: a4 :: a5 :: r, _ =>
    refine ⟨a0.toNat, a1.toNat, a2.toNat, a3.toNat, a4.toNat, a5.toNat, a0.toNat_lt, a1.toNat_lt, a2.toNat_lt, a3.toNat_lt, a4.toNat_lt, a5.toNat_lt, rfl, rfl, rfl, rfl, rfl, rfl, ?_, ?_⟩
    · simp [numAt, takeN]; omega
    · simp [numAt, takeN]

set_option maxHeartbeats 4000000 in
set_option maxRecDepth 20000 in
theorem law_read {w : World} {v : Value} {n : Nat} {H : Nat → Bs} (hv : HomesAt w v n H) (hlen : ∀ i, i < n → (H i).length = 248) (hn : n ≤ 1900) (first : Nat) (hf : first < 4294967296) (R : Nat × List Nat × Bs) (hR : getC n H first = R) :
    Calls Tryz.prog 58 #[v, .int .u32 first] w fun e w' => ∃ vb, e = .returned (.tuple #[vb, .int .i64 R.1]) ∧ BytesAt w' vb R.2.2 ∧ Kp [] w w' := by
  have HLE := Lib.hid hlen
  have HV0 := Lib.hid hv
  obtain ⟨b, cs, rfl, hblk, hcs⟩ := hv
  have HBLK := Lib.hid hblk
  have HCS := Lib.hid hcs
  have cv : IntKind.i64.wrap (first : Int) = first := IntWalk.i64_in _ (by omega)
  have cvu : IntKind.u64.wrap (first : Int) = first := IntWalk.u64_in _ (by omega)
  have cvn : IntKind.u64.wrap (n : Int) = n := IntWalk.u64_in _ (by omega)
  by_cases hlow : first < 2 ∨ n ≤ first
  · have hR' : R = (1, [], []) := by rw [← hR]; unfold getC; rw [if_pos hlow]
    subst hR'
    clear hR hblk hcs hlen
    rcases hlow with h1 | h1
    all_goals
      have h1' := h1
      go_enter Tryz.func58, Tryz.ntmps58
      go_wp2
      all_goals
        go_ret2
        exact ⟨_, rfl, BytesAt.nil _, Kp.refl _ _⟩
  · have h1 : ¬ ((first : Int) < 2) := by omega
    have h2 : ¬ ((n : Int) ≤ first) := by omega
    have hR' : getF n H 41 first [] [] = R := by rw [← hR]; unfold getC; rw [if_neg hlow]
    have HR := Lib.hid hR'
    have hfn : first < n := by omega
    have hf2 : 2 ≤ first := by omega
    clear hR hR' hlow hblk hcs hlen
    go_enter Tryz.func58, Tryz.ntmps58
    go_wp2
    go_loopw [6, 7, 8] (fun ov hx ix wr => ∃ (q h : Nat) (l : List Nat) (bs : Bs), ix = .int .i64 q ∧ hx = .int .i64 h ∧ q ≤ 40 ∧ 2 ≤ h ∧ h < n ∧ l.length = q ∧ bs.length ≤ 242 * q ∧ OwnB wr w.heap.size ov bs ∧ getF n H (41 - q) h l bs = R ∧ Kp [] w wr) (fun _ _ ix _ => 40 - (intOf ix).toNat)
    case atStart => exact ⟨0, first, [], [], rfl, rfl, by omega, hf2, hfn, rfl, by simp, OwnB.nil _ _, HR.out, Kp.refl _ _⟩
    case round =>
      obtain ⟨q, h, l, bs, rfl, rfl, hq, hh2, hhn, hl, hbl, hob, hgo, hkr⟩ := hrel
      obtain ⟨a0, na, c0, rfl⟩ := hob.bytes.shape
      have HB := Lib.hid hob
      have HKR := Lib.hid hkr
      obtain ⟨f, hf40⟩ : ∃ f, 41 - q = f + 1 := ⟨40 - q, by omega⟩
      rw [hf40] at hgo
      unfold getF at hgo
      rw [if_neg (by omega)] at hgo
      by_cases hqq : q = 40
      · subst hqq
        rw [if_pos (by omega)] at hgo
        subst hgo
        clear hob hkr
        go_wp2
        go_ret2
        exact ⟨_, rfl, BytesAt.nil _, HKR.out⟩
      · rw [if_neg (by omega)] at hgo
        have hq40 : q < 40 := by omega
        obtain ⟨vb, hvc, hvb⟩ := HCS.out h hhn
        have hvbr := hvb.kp0 hkr
        have hlenh := HLE.out h hhn
        obtain ⟨x0, x1, x2, x3, x4, x5, y0, y1, y2, y3, y4, y5, z0, z1, z2, z3, z4, z5, n4, n2⟩ := head_nums (H h) (by omega)
        have ch := cell_of (hkr.at HBLK.out (by simp)) h hvc
        have HVB := Lib.hid hvbr
        rcases hvbr with ⟨_, e⟩ | ⟨b6, off, cap, cs6, fz6, rfl, hc6, hb6, hs6, hcs6⟩
        · rw [e] at hlenh; simp at hlenh
        rw [hlenh] at hcs6 hc6 ch
        have d0 := cell_of hb6 (off + 0) ((hcs6 0 (by decide)).trans z0)
        have d1 := cell_of hb6 (off + 1) ((hcs6 1 (by decide)).trans z1)
        have d2 := cell_of hb6 (off + 2) ((hcs6 2 (by decide)).trans z2)
        have d3 := cell_of hb6 (off + 3) ((hcs6 3 (by decide)).trans z3)
        have d4 := cell_of hb6 (off + 4) ((hcs6 4 (by decide)).trans z4)
        have d5 := cell_of hb6 (off + 5) ((hcs6 5 (by decide)).trans z5)
        rw [Nat.add_zero] at d0
        obtain ⟨nx, hnx⟩ : ∃ nx, numAt (H h) 0 4 = nx := ⟨_, rfl⟩
        obtain ⟨m, hm⟩ : ∃ m, numAt (H h) 4 2 = m := ⟨_, rfl⟩
        rw [hnx] at hgo n4
        rw [hm] at hgo n2
        have HGO := Lib.hid hgo
        have HLH := Lib.hid hlenh
        have HL := Lib.hid hl
        have HBL := Lib.hid hbl
        have cvm : IntKind.i64.wrap ((x4 : Int) + IntKind.i64.wrap ((x5 : Int) * 256)) = (m : Int) := by
          rw [IntWalk.i64_in ((x5 : Int) * 256) (by omega), IntWalk.i64_in _ (by omega)]; omega
        clear hgo hob hkr hvb hvc hcs6 hb6 hs6 z0 z1 z2 z3 z4 z5 hnx hm hlenh hl hbl
        have hsN : (x0 : Int) + (x1 : Int) * 256 + (x2 : Int) * 65536 + (x3 : Int) * 16777216 = (nx : Int) := by omega
        have hsM : (x4 : Int) + (x5 : Int) * 256 = (m : Int) := by omega
        have hnx32 : nx < 4294967296 := by omega
        have hm16 : m < 65536 := by omega
        have HSN := Lib.hid hsN
        have HSM := Lib.hid hsM
        have hR16 : (nx = 1 ∨ n ≤ nx ∨ 242 < m ∨ (nx ≠ 0 ∧ m < 242)) → R = (16, [], []) := by
          intro hc
          rw [← HGO.out]
          by_cases h5 : 242 < m ∨ (nx ≠ 0 ∧ m < 242)
          · rw [if_pos h5]
          · rw [if_neg h5]
            obtain ⟨f', hf'⟩ : ∃ f', f = f' + 1 := ⟨f - 1, by omega⟩
            rw [hf']
            unfold getF
            rw [if_neg (by omega), if_pos (by omega)]
        have HR16 := Lib.hid hR16
        have cvx : IntKind.i64.wrap (nx : Int) = nx := IntWalk.i64_in _ (by omega)
        have HF40 := Lib.hid hf40
        clear hsN hsM n4 n2 hR16 hf40
        go_upto_region 9 with (fail)
        go_quiet (fail)
        rw [HSN.out]
        go_upto_region 10 with (fail)
        go_quiet (fail)
        rw [HSM.out]
        by_cases hA : nx = 1
        · obtain rfl := HR16.out (.inl hA)
          have hA' : ((nx : Int) == 1) = true := by rw [hA]; rfl
          clear hA
          go_wp2
          go_ret2
          exact ⟨_, rfl, BytesAt.nil _, HKR.out.and (Kp.drewN _ _)⟩
        have hA' : ((nx : Int) == 1) = false := beq_eq_false_iff_ne.2 (by omega)
        by_cases hB : n ≤ nx
        · obtain rfl := HR16.out (.inr (.inl hB))
          go_wp2
          go_ret2
          exact ⟨_, rfl, BytesAt.nil _, HKR.out.and (Kp.drewN _ _)⟩
        by_cases hC : 242 < m
        · obtain rfl := HR16.out (.inr (.inr (.inl hC)))
          have hC' : (242 : Int) < m := by omega
          go_wp2
          go_ret2
          exact ⟨_, rfl, BytesAt.nil _, HKR.out.and (Kp.drewN _ _)⟩
        have hC' : ¬ (242 : Int) < m := by omega
        have hcut := HVB.out.cut 6 (6 + m) (by omega) (by rw [HLH.out]; omega)
        rw [show 6 + m - 6 = m by omega] at hcut
        obtain ⟨v', hsl, hbv⟩ := hcut
        have hXl : (((H h).drop 6).take m).length = m := by rw [List.length_take, List.length_drop, HLH.out]; omega
        have hgo := HGO.out
        generalize hX : ((H h).drop 6).take m = X at *
        obtain ⟨a', n', c', rfl⟩ := hbv.shape
        have hsl' : ∀ W, (Instr.slice 30 (.slice (some ⟨b6, off, none⟩) 248 cap) (some (.int .i64 6)) (some (.int .i64 (6 + (m : Int)))) none).run Tryz.prog W = .ok (.slice a' n' c') W := fun W => by have := hsl W; rw [show ((6 + m : Nat) : Int) = 6 + (m : Int) by omega] at this; exact this
        clear hsl
        have HBV := Lib.hid hbv
        have HXL := Lib.hid hXl
        have hm242 : m ≤ 242 := by omega
        have hR0 : ¬ (242 < m ∨ (nx ≠ 0 ∧ m < 242)) → getF n H f nx (l ++ [h]) (bs ++ X) = R := by
          intro hc; rw [← hgo, if_neg hc]
        have HR0 := Lib.hid hR0
        have HH0 := Lib.hid (show w.heap.size ≤ wr.heap.size from HKR.out.size)
        clear hbv hXl hX hR0 hgo
        by_cases hD : nx = 0
        · have hD' : ((nx : Int) != 0) = false := by rw [hD]; rfl
          have hD2 : ((nx : Int) == 0) = true := by rw [hD]; rfl
          have hfin : R = (0, l ++ [h], bs ++ X) := by
            rw [← HR0.out (by omega), hD]
            obtain ⟨f', hf'⟩ : ∃ f', f = f' + 1 := ⟨f - 1, by have := HF40.out; omega⟩
            rw [hf']
            unfold getF
            rw [if_pos rfl]
          subst hfin
          clear hD
          go_wp2_with (at_builtin; refine wpList_append_bytes rfl _ _ rfl w.heap.size _ _ bs X rfl rfl (HB.out.kp0 (Kp.drewN _ _)) (HBV.out.kp0 (Kp.drewN _ _)) (by have := HXL.out; have := HBL.out; omega) (by exact HH0.out) ?_; intro v5 w5 ho5 hk5; obtain ⟨a5, n5, c5, rfl⟩ := ho5.bytes.shape; have HO5 := Lib.hid ho5; have HK5 := Lib.hid hk5; clear ho5 hk5)
          go_ret2
          exact ⟨_, rfl, HO5.out.bytes, (HKR.out.and (Kp.drewN _ _)).trans HK5.out (fun x hx => .inr (HB.out.own x hx))⟩
        · have hD' : ((nx : Int) != 0) = true := by rw [bne_iff_ne]; omega
          have hD2 : ((nx : Int) == 0) = false := beq_eq_false_iff_ne.2 (by omega)
          by_cases hE : m < 242
          · obtain rfl := HR16.out (.inr (.inr (.inr ⟨hD, hE⟩)))
            have hE' : (m : Int) < 242 := by omega
            go_wp2
            go_ret2
            exact ⟨_, rfl, BytesAt.nil _, HKR.out.and (Kp.drewN _ _)⟩
          · have hE' : ¬ (m : Int) < 242 := by omega
            have hlink := HR0.out (by omega)
            have HLK := Lib.hid hlink
            have HN2 := Lib.hid (show 2 ≤ nx by omega)
            clear hD hE hlink
            go_wp2_with (at_builtin; refine wpList_append_bytes rfl _ _ rfl w.heap.size _ _ bs X rfl rfl (HB.out.kp0 (Kp.drewN _ _)) (HBV.out.kp0 (Kp.drewN _ _)) (by have := HXL.out; have := HBL.out; omega) (by exact HH0.out) ?_; intro v5 w5 ho5 hk5; obtain ⟨a5, n5, c5, rfl⟩ := ho5.bytes.shape; have HO5 := Lib.hid ho5; have HK5 := Lib.hid hk5; clear ho5 hk5)
            refine ⟨⟨q + 1, nx, l ++ [h], bs ++ X, by simp, rfl, by omega, HN2.out, by omega, by rw [List.length_append, HL.out]; rfl, by rw [List.length_append]; have := HXL.out; have := HBL.out; omega, HO5.out, ?_, (HKR.out.and (Kp.drewN _ _)).trans HK5.out (fun x hx => .inr (HB.out.own x hx))⟩, by simp only [intOf]; omega⟩
            rw [show 41 - (q + 1) = f by have := HF40.out; omega]
            exact HLK.out
end Go.Proofs.YtonkeialdfofcaaGreatDoor
