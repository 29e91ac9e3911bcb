/-
  chain.gets: what it reads.
-/
import Derived.Test.YtonkeialdfofcaaGreatDoorStep
import Derived.Deep.DeepCutAuto
namespace Go.Proofs.YtonkeialdfofcaaGreatDoor
open Go.RowKit Go

/-- A chain's error of a code; nil: 0. -/
def IsCE (w : World) (v : Value) (c : Int) : Prop :=
  (c = 0 ∧ v = .nilIface) ∨ (c ≠ 0 ∧ ∃ b b', v = .iface 201 (.pointer (some ⟨b, 0, none⟩)) ∧ w.heap[b]? = some (.cells #[.iface 175 (.pointer (some ⟨b', 0, none⟩))] 203 (0, 0)) ∧ w.heap[b']? = some (.cells #[.int .i64 c] 178 (0, 0)))

theorem chain_bad (e : Int) (w : World) (he : e ≠ 0) : Calls Tryz.prog 146 #[.int .i64 e] w fun r w' => ∃ v, r = .returned v ∧ IsCE w' v e ∧ Kp [] w w' := by
  have h : (e == 0) = false := beq_eq_false_iff_ne.2 he
  have HE := Lib.hid he
  clear he
  go_enter Tryz.func146, Tryz.ntmps146
  go_wp2
  go_ret
  refine ⟨_, rfl, .inr ⟨HE.out, _, _, rfl, heap_alloc2_new _ _ _, (Kp.alloc _ _).at (blk_alloc_new _ _) (by simp)⟩, (Kp.alloc _ _).and (Kp.alloc _ _)⟩

/-- What gets reads from a home on: a code, homes, bytes. -/
def getF (n : Nat) (H : Nat → Bs) : Nat → Nat → List Nat → Bs → Nat × List Nat × Bs
  | 0, _, _, _ => (16, [], [])
  | f + 1, next, l, b =>
    if next = 0 then (0, l, b)
    else if next < 2 ∨ n ≤ next ∨ l.length = 40 then (16, [], [])
    else if 242 < numAt (H next) 4 2 ∨ (numAt (H next) 0 4 ≠ 0 ∧ numAt (H next) 4 2 < 242) then (16, [], [])
    else getF n H f (numAt (H next) 0 4) (l ++ [next]) (b ++ ((H next).drop 6).take (numAt (H next) 4 2))
def getC (n : Nat) (H : Nat → Bs) (first : Nat) : Nat × List Nat × Bs := if first < 2 ∨ n ≤ first then (1, [], []) else getF n H 41 first [] []

section
variable {w : World} {t n : Nat} {H : Nat → Bs} {F : List Nat}

set_option maxHeartbeats 2000000 in

set_option maxRecDepth 20000 in
theorem chain_gets (first : Nat) (R : Nat × List Nat × Bs) (h : TxSys w t n H F) (hf : first < 4294967296) (hR : getC n H first = R) :
    Calls Tryz.prog 112 #[.pointer (some ⟨t, 0, none⟩), .int .u32 first] w fun e w' => ∃ vl vb ve, e = .returned (.tuple #[vl, vb, ve]) ∧ OwnI w' w.heap.size vl R.2.1 ∧ OwnB w' w.heap.size vb R.2.2 ∧ IsCE w' ve R.1 ∧ TxSys w' t n H F ∧ Kp F w w' := by
  have HS := Lib.hid h
  have hp := h.pos
  have hFlt := Lib.hid h.lt
  have cv : IntKind.i64.wrap (first : Int) = first := IntWalk.i64_in _ (by omega)
  by_cases hlow : first < 2 ∨ n ≤ first
  · have hR' : R = (1, [], []) := by rw [← hR]; unfold getC; rw [if_pos hlow]
    subst hR'
    clear h hR
    rcases hlow with h1 | h1
    all_goals
      have h1' := h1
      go_enter Tryz.func112, Tryz.ntmps112
      go_wp2_with (first
        | (go_at_call 47; refine (ts_read 0 HS.out hp).mono ?_; rintro e w1 ⟨v1, rfl, ho, ht, hk⟩; obtain ⟨a1, n1, cp1, rfl⟩ := ho.bytes.shape; have HT := Lib.hid ht; have HK := Lib.hid hk; clear ho ht hk)
        | (go_at_call 53; refine (ts_homes HT.out).mono ?_; rintro e w2 ⟨rfl, q, rfl⟩)
        | (go_at_call 146; refine (chain_bad 1 _ (by decide)).mono ?_; rintro e w3 ⟨v3, rfl, he, hk3⟩))
      all_goals
        go_ret3
        first
        | exact ⟨_, _, _, rfl, World.ownsRow_nil _ _ _ _, OwnB.nil _ _, he, HT.out.kp0 hk3, HK.out.and (hk3.mono (by simp))⟩
        | exact ⟨_, _, _, rfl, World.ownsRow_nil _ _ _ _, OwnB.nil _ _, he, (HT.out.kp0 (Kp.drewN _ _)).kp0 hk3, (HK.out.and ((Kp.drewN _ _).mono (by simp))).and (hk3.mono (by simp))⟩
  · have h1 : ¬ ((first : Int) < 2) := by omega
    have h2 : ¬ ((n : Int) ≤ first) := by omega
    have hR' : getF n H 41 first [] [] = R := by rw [← hR]; unfold getC; rw [if_neg hlow]
    have HR := Lib.hid hR'
    clear h hR hR' hlow
    go_enter Tryz.func112, Tryz.ntmps112
    go_wp2_with (first
      | (go_at_call 47; refine (rd_read 0 HS.out.rd hp).mono ?_; rintro e w1 ⟨v1, rfl, ho, ht, hk⟩; obtain ⟨a1, n1, cp1, rfl⟩ := ho.bytes.shape; have HT := Lib.hid ht; clear ho ht hk)
      | (go_at_call 53; refine (ts_homes HT.out.sys).mono ?_; rintro e w2 ⟨rfl, q, rfl⟩; have HT2 := Lib.hid (HT.out.kp0 (Kp.drewN w1 q))))
    · exfalso; omega
    generalize w1.drewN q = w2 at *
    clear HT
    go_loopw [4, 5, 9] (fun hv bv x wr => ∃ (l : List Nat) (bs : Bs) (next : Nat), x = .int .i64 next ∧ next < 4294967296 ∧ l.length ≤ 40 ∧ bs.length ≤ 242 * l.length ∧ OwnI wr w.heap.size hv l ∧ OwnB wr w.heap.size bv bs ∧ getF n H (41 - l.length) next l bs = R ∧ TxRd w wr t n H F) (fun hv _ _ _ => 41 - (match hv with | .slice _ k _ => k | _ => 0))
    case atStart => exact ⟨[], [], first, rfl, hf, by simp, by simp, World.ownsRow_nil _ _ _ _, OwnB.nil _ _, HR.out, HT2.out⟩
    case round =>
      obtain ⟨l, bs, next, rfl, hnx, hl40, hbl, hown, hob, hgo, hrd⟩ := hrel
      obtain ⟨a0, c0, rfl⟩ := hown.shape
      obtain ⟨b0, nb, d0, rfl⟩ := hob.bytes.shape
      have HO := Lib.hid hown
      have HB := Lib.hid hob
      have HG := Lib.hid hgo
      have HRD := Lib.hid hrd
      clear hown hob hgo hrd
      by_cases hz : next = 0
      · subst hz
        go_wp2
        go_ret3
        have e := HG.out
        obtain ⟨k, hk⟩ : ∃ k, 41 - l.length = k + 1 := ⟨40 - l.length, by omega⟩
        rw [hk] at e
        unfold getF at e
        rw [if_pos rfl] at e
        subst e
        exact ⟨_, _, _, rfl, HO.out, HB.out, .inl ⟨rfl, rfl⟩, HRD.out.sys, HRD.out.fr⟩
      · obtain ⟨f, hf40⟩ : ∃ f, 41 - l.length = f + 1 := ⟨40 - l.length, by omega⟩
        have e := HG.out
        rw [hf40] at e
        unfold getF at e
        rw [if_neg hz] at e
        have hz' : ((next : Int) != 0) = true := by rw [bne_iff_ne]; omega
        by_cases hc1 : next < 2 ∨ n ≤ next ∨ l.length = 40
        · rw [if_pos hc1] at e
          subst e
          clear hz hf40
          rcases hc1 with g1 | g1 | g1
          all_goals
            have g1' := g1
            go_wp2_with (first
              | (go_at_call 53; refine (ts_homes HRD.out.sys).mono ?_; rintro e w2 ⟨rfl, q, rfl⟩)
              | (go_at_call 146; refine (chain_bad 16 _ (by decide)).mono ?_; rintro e w3 ⟨v3, rfl, he, hk3⟩))
            all_goals try (exfalso; omega)
            all_goals
              go_ret3
              first
              | exact ⟨_, _, _, rfl, World.ownsRow_nil _ _ _ _, OwnB.nil _ _, he, (HRD.out.kp0 hk3).sys, (HRD.out.kp0 hk3).fr⟩
              | exact ⟨_, _, _, rfl, World.ownsRow_nil _ _ _ _, OwnB.nil _ _, he, ((HRD.out.kp0 (Kp.drewN _ _)).kp0 hk3).sys, ((HRD.out.kp0 (Kp.drewN _ _)).kp0 hk3).fr⟩
        · rw [if_neg hc1] at e
          have g1 : ¬ ((next : Int) < 2) := by omega
          have g2 : ¬ n ≤ next := by omega
          have g3 : ¬ l.length = 40 := by omega
          have hnn : next < n := by omega
          have HLX := Lib.hid (HS.out.len next hnn)
          have htl : numAt (H next) 0 4 < 4294967296 := by
            unfold numAt
            have := takeN_lt ((List.drop 0 (H next)).take 4)
            have e4 : ((List.drop 0 (H next)).take 4).length = 4 := by rw [List.length_take, List.length_drop, HLX.out]; rfl
            rw [e4] at this
            exact this
          have hml : numAt (H next) 4 2 < 65536 := by
            unfold numAt
            have := takeN_lt ((List.drop 4 (H next)).take 2)
            have e4 : ((List.drop 4 (H next)).take 2).length = 2 := by rw [List.length_take, List.length_drop, HLX.out]; rfl
            rw [e4] at this
            exact this
          have HTK4 := Lib.hid (fun (v : Value) (W : World) (hb : BytesAt W v (H next)) => take_bytes 4 0 v (H next) W hb (by simp) (by rw [HLX.out]; decide) (by rw [HLX.out]; decide))
          have HTK2 := Lib.hid (fun (v : Value) (W : World) (hb : BytesAt W v (H next)) => take_bytes 2 4 v (H next) W hb (by simp) (by rw [HLX.out]; decide) (by rw [HLX.out]; decide))
          generalize hto : numAt (H next) 0 4 = nx2 at *
          generalize hmm : numAt (H next) 4 2 = m at *
          have HTO := Lib.hid hto
          have HMM := Lib.hid hmm
          have cvt : IntKind.i64.wrap (nx2 : Int) = nx2 := IntWalk.i64_in _ (by omega)
          have cvm : IntKind.i64.wrap (m : Int) = m := IntWalk.i64_in _ (by omega)
          clear hz hc1 hto hmm
          by_cases hc2 : 242 < m ∨ (nx2 ≠ 0 ∧ m < 242)
          · rw [if_pos hc2] at e
            subst e
            rcases hc2 with k1 | ⟨k1, k2⟩
            rotate_left
            have k1' : ((nx2 : Int) != 0) = true := by rw [bne_iff_ne]; omega
            have k2' : (m : Int) < 242 := by omega
            have k3' : ¬ ((242 : Int) < m) := by omega
            rotate_right
            all_goals
              go_wp2_with (first
                | (go_at_call 53; refine (ts_homes HRD.out.sys).mono ?_; rintro e w2 ⟨rfl, q, rfl⟩)
                | (go_at_call 47; refine (rd_read next (HRD.out.kp0 (Kp.drewN _ _)) hnn).mono ?_; rintro e w3 ⟨v3, rfl, ho3, hr3, hk3⟩; obtain ⟨a3, n3, cp3, rfl⟩ := ho3.bytes.shape; have HO3 := Lib.hid ho3; have HR3 := Lib.hid hr3; have HK3 := Lib.hid hk3; clear ho3 hr3 hk3)
                | (go_at_call 147; refine (HTK4.out _ _ HO3.out.bytes).mono ?_; rintro e w4 ⟨rfl, rfl⟩; clear HTK4)
                | (go_at_call 147; refine (HTK2.out _ _ HO3.out.bytes).mono ?_; rintro e w4 ⟨rfl, rfl⟩; clear HTK2)
                | (go_at_call 146; refine (chain_bad 16 _ (by decide)).mono ?_; rintro e w5 ⟨v5, rfl, he, hk5⟩))
              all_goals try (exfalso; omega)
              all_goals
                go_ret3
                exact ⟨_, _, _, rfl, World.ownsRow_nil _ _ _ _, OwnB.nil _ _, he, (HR3.out.kp0 hk5).sys, (HR3.out.kp0 hk5).fr⟩
          · rw [if_neg hc2] at e
            have HE := Lib.hid e
            have hm242 : m ≤ 242 := by omega
            have k3' : ¬ ((242 : Int) < m) := by omega
            have hsum : IntKind.i64.wrap (6 + (m : Int)) = 6 + m := IntWalk.i64_in _ (by omega)
            have hcase : nx2 = 0 ∨ (nx2 ≠ 0 ∧ m = 242) := by omega
            clear e hc2
            rcases hcase with hk | ⟨hk, hk2⟩
            · have k1' : ((nx2 : Int) != 0) = false := by subst hk; rfl
              go_upto_region 17 with (first
                | (go_at_call 53; refine (ts_homes HRD.out.sys).mono ?_; rintro e w2 ⟨rfl, q, rfl⟩)
                | (go_at_call 47; refine (rd_read next (HRD.out.kp0 (Kp.drewN _ _)) hnn).mono ?_; rintro e w3 ⟨v3, rfl, ho3, hr3, hk3⟩; obtain ⟨a3, n3, cp3, rfl⟩ := ho3.bytes.shape; have HO3 := Lib.hid ho3; have HR3 := Lib.hid hr3; have HK3 := Lib.hid hk3; clear ho3 hr3 hk3)
                | (go_at_call 147; refine (HTK4.out _ _ HO3.out.bytes).mono ?_; rintro e w4 ⟨rfl, rfl⟩; clear HTK4)
                | (go_at_call 147; refine (HTK2.out _ _ HO3.out.bytes).mono ?_; rintro e w4 ⟨rfl, rfl⟩; clear HTK2))
              · exfalso; omega
              obtain ⟨v', hsl, hbv⟩ := HO3.out.bytes.cut 6 (6 + m) (by omega) (by rw [HLX.out]; omega)
              rw [show 6 + m - 6 = m by omega] at hbv
              have hbl' : ((List.drop 6 (H next)).take m).length ≤ 242 := by simp; omega
              generalize (List.drop 6 (H next)).take m = X at *
              obtain ⟨a', n', c', rfl⟩ := hbv.shape
              have hsl' : ∀ W, (Instr.slice 30 (.slice a3 n3 cp3) (some (.int .i64 6)) (some (.int .i64 (6 + (m : Int)))) none).run Tryz.prog W = .ok (.slice a' n' c') W := fun W => by have := hsl W; rw [show ((6 + m : Nat) : Int) = 6 + (m : Int) by omega] at this; exact this
              clear hsl
              have HBV := Lib.hid hbv
              have HXL := Lib.hid hbl'
              have hs0 := HRD.out.fr.size
              have HHS := Lib.hid (show w.heap.size ≤ w3.heap.size by have := HK3.out.size; have : (wr.drewN q).heap.size = wr.heap.size := rfl; omega)
              clear hbv hbl' hs0
              have hkw : Kp F wr w3 := ((Kp.drewN wr q).mono (by simp)).and HK3.out
              have HI3 := Lib.hid (HO.out.kp hkw (fun x hx c => by have := (HO.out.lt x hx).1; have := hFlt.out x c; omega))
              have HB3 := Lib.hid (HB.out.kp hkw hFlt.out)
              clear hkw
              go_cut [4, 5] (fun hv bv wx => ∃ a1 c1 a2 n2 c2, hv = .slice a1 (l.length + 1) c1 ∧ bv = .slice a2 n2 c2 ∧ OwnI wx w.heap.size hv (l ++ [next]) ∧ OwnB wx w.heap.size bv (bs ++ X) ∧ TxRd w wx t n H F)
              case first =>
                go_region_law (first
                  | (refine step_append_int rfl _ _ rfl w.heap.size _ l next w3.heap.size 1 rfl rfl (HI3.out.kp0 ((Kp.alloc _ _).and (Kp.drew _))) (cell_of ((Kp.drew _).at (blk_alloc_new w3 _) (by simp)) 0 rfl) (by omega) (by have := HHS.out; simp; omega) ?_; intro v5 w5 ho5 hk5; obtain ⟨a5, c5, rfl⟩ := ho5.shape; have HO5 := Lib.hid ho5; have HK5 := Lib.hid hk5; clear ho5 hk5)
                  | (refine step_append_bytes rfl _ _ rfl w.heap.size _ _ bs X rfl rfl ((HB3.out.kp0 ((Kp.alloc _ _).and (Kp.drew _))).kpN HK5.out (HI3.out.kp0 ((Kp.alloc w3 (Obj.cells #[Value.int IntKind.i64 next] 3)).and (Kp.drew _))).noB) ((HBV.out.kp0 ((Kp.alloc _ _).and (Kp.drew _))).kp HK5.out (HI3.out.kp0 ((Kp.alloc w3 (Obj.cells #[Value.int IntKind.i64 next] 3)).and (Kp.drew _))).noB) (by have := HXL.out; omega) (by have := HHS.out; have := HK5.out.size; simp at this; omega) ?_; intro v6 w6 ho6 hk6; obtain ⟨a6, n6, c6, rfl⟩ := ho6.bytes.shape; have HO6 := Lib.hid ho6; have HK6 := Lib.hid hk6; clear ho6 hk6))
                go_wp2_with fail
                go_meet
                have hB5 := (HB3.out.kp0 ((Kp.alloc w3 (Obj.cells #[Value.int IntKind.i64 next] 3)).and (Kp.drew _))).kpN HK5.out (HI3.out.kp0 ((Kp.alloc w3 (Obj.cells #[Value.int IntKind.i64 next] 3)).and (Kp.drew _))).noB
                refine ⟨_, _, _, _, _, rfl, rfl, ?_, HO6.out, ?_⟩
                · have := HO5.out.kpB HK6.out hB5.isB
                  simpa using this
                · exact ((HR3.out.kp0 ((Kp.alloc _ _).and (Kp.drew _))).kp HK5.out (fun x hx => (HI3.out.lt x hx).1)).kp HK6.out (fun x hx => hB5.own x hx)
              case rest =>
                obtain ⟨a5, c5, a6, n6, c6, rfl, rfl, ho6, hb6, hr6⟩ := hcut
                go_wp2
                have e6 := HE.out
                rw [hk] at e6
                refine ⟨⟨_, _, _, _, ⟨l ++ [next], bs ++ X, 0, rfl, by decide, by simp; omega, ?_, ?_, hb6, ?_⟩, rfl, rfl, rfl, rfl⟩, by omega⟩
                · rw [List.length_append, List.length_append]; have := HXL.out; simp; omega
                · exact ho6
                · rw [show 41 - (l ++ [next]).length = f by simp; omega]; exact e6
            · have k1' : ((nx2 : Int) != 0) = true := by rw [bne_iff_ne]; omega
              have k2' : ¬ ((m : Int) < 242) := by omega
              clear hk2
              go_upto_region 17 with (first
                | (go_at_call 53; refine (ts_homes HRD.out.sys).mono ?_; rintro e w2 ⟨rfl, q, rfl⟩)
                | (go_at_call 47; refine (rd_read next (HRD.out.kp0 (Kp.drewN _ _)) hnn).mono ?_; rintro e w3 ⟨v3, rfl, ho3, hr3, hk3⟩; obtain ⟨a3, n3, cp3, rfl⟩ := ho3.bytes.shape; have HO3 := Lib.hid ho3; have HR3 := Lib.hid hr3; have HK3 := Lib.hid hk3; clear ho3 hr3 hk3)
                | (go_at_call 147; refine (HTK4.out _ _ HO3.out.bytes).mono ?_; rintro e w4 ⟨rfl, rfl⟩; clear HTK4)
                | (go_at_call 147; refine (HTK2.out _ _ HO3.out.bytes).mono ?_; rintro e w4 ⟨rfl, rfl⟩; clear HTK2))
              obtain ⟨v', hsl, hbv⟩ := HO3.out.bytes.cut 6 (6 + m) (by omega) (by rw [HLX.out]; omega)
              rw [show 6 + m - 6 = m by omega] at hbv
              have hbl' : ((List.drop 6 (H next)).take m).length ≤ 242 := by simp; omega
              generalize (List.drop 6 (H next)).take m = X at *
              obtain ⟨a', n', c', rfl⟩ := hbv.shape
              have hsl' : ∀ W, (Instr.slice 30 (.slice a3 n3 cp3) (some (.int .i64 6)) (some (.int .i64 (6 + (m : Int)))) none).run Tryz.prog W = .ok (.slice a' n' c') W := fun W => by have := hsl W; rw [show ((6 + m : Nat) : Int) = 6 + (m : Int) by omega] at this; exact this
              clear hsl
              have HBV := Lib.hid hbv
              have HXL := Lib.hid hbl'
              have hs0 := HRD.out.fr.size
              have HHS := Lib.hid (show w.heap.size ≤ w3.heap.size by have := HK3.out.size; have : (wr.drewN q).heap.size = wr.heap.size := rfl; omega)
              clear hbv hbl' hs0
              have hkw : Kp F wr w3 := ((Kp.drewN wr q).mono (by simp)).and HK3.out
              have HI3 := Lib.hid (HO.out.kp hkw (fun x hx c => by have := (HO.out.lt x hx).1; have := hFlt.out x c; omega))
              have HB3 := Lib.hid (HB.out.kp hkw hFlt.out)
              clear hkw
              go_cut [4, 5] (fun hv bv wx => ∃ a1 c1 a2 n2 c2, hv = .slice a1 (l.length + 1) c1 ∧ bv = .slice a2 n2 c2 ∧ OwnI wx w.heap.size hv (l ++ [next]) ∧ OwnB wx w.heap.size bv (bs ++ X) ∧ TxRd w wx t n H F)
              case first =>
                go_region_law (first
                  | (refine step_append_int rfl _ _ rfl w.heap.size _ l next w3.heap.size 1 rfl rfl (HI3.out.kp0 ((Kp.alloc _ _).and (Kp.drew _))) (cell_of ((Kp.drew _).at (blk_alloc_new w3 _) (by simp)) 0 rfl) (by omega) (by have := HHS.out; simp; omega) ?_; intro v5 w5 ho5 hk5; obtain ⟨a5, c5, rfl⟩ := ho5.shape; have HO5 := Lib.hid ho5; have HK5 := Lib.hid hk5; clear ho5 hk5)
                  | (refine step_append_bytes rfl _ _ rfl w.heap.size _ _ bs X rfl rfl ((HB3.out.kp0 ((Kp.alloc _ _).and (Kp.drew _))).kpN HK5.out (HI3.out.kp0 ((Kp.alloc w3 (Obj.cells #[Value.int IntKind.i64 next] 3)).and (Kp.drew _))).noB) ((HBV.out.kp0 ((Kp.alloc _ _).and (Kp.drew _))).kp HK5.out (HI3.out.kp0 ((Kp.alloc w3 (Obj.cells #[Value.int IntKind.i64 next] 3)).and (Kp.drew _))).noB) (by have := HXL.out; omega) (by have := HHS.out; have := HK5.out.size; simp at this; omega) ?_; intro v6 w6 ho6 hk6; obtain ⟨a6, n6, c6, rfl⟩ := ho6.bytes.shape; have HO6 := Lib.hid ho6; have HK6 := Lib.hid hk6; clear ho6 hk6))
                go_wp2_with fail
                go_meet
                have hB5 := (HB3.out.kp0 ((Kp.alloc w3 (Obj.cells #[Value.int IntKind.i64 next] 3)).and (Kp.drew _))).kpN HK5.out (HI3.out.kp0 ((Kp.alloc w3 (Obj.cells #[Value.int IntKind.i64 next] 3)).and (Kp.drew _))).noB
                refine ⟨_, _, _, _, _, rfl, rfl, ?_, HO6.out, ?_⟩
                · have := HO5.out.kpB HK6.out hB5.isB
                  simpa using this
                · exact ((HR3.out.kp0 ((Kp.alloc _ _).and (Kp.drew _))).kp HK5.out (fun x hx => (HI3.out.lt x hx).1)).kp HK6.out (fun x hx => hB5.own x hx)
              case rest =>
                obtain ⟨a5, c5, a6, n6, c6, rfl, rfl, ho6, hb6, hr6⟩ := hcut
                go_wp2
                have e6 := HE.out
                refine ⟨⟨_, _, _, _, ⟨l ++ [next], bs ++ X, nx2, rfl, htl, by simp; omega, ?_, ?_, hb6, ?_⟩, rfl, rfl, rfl, rfl⟩, by omega⟩
                · rw [List.length_append, List.length_append]; have := HXL.out; simp; omega
                · exact ho6
                · rw [show 41 - (l ++ [next]).length = f by simp; omega]; exact e6
end
end Go.Proofs.YtonkeialdfofcaaGreatDoor
