/-
  The disk's Flush: its contract.
-/
import Derived.Test.YtonkeialdfofcaaGreatDoorDk3
import Derived.Deep.LoopGhost
import Derived.Maps.RangeWalk
namespace Go.Proofs.YtonkeialdfofcaaGreatDoor
open Go.RowKit Go
section
variable {w : World} {p bl bm : Nat} {D : Dk} {cs : Array Value} {al : List (Int × Value)} {vt : Value}

theorem may0 (h : D.Ok) : D.may 0 = if D.dead then 12 else 0 := by
  unfold Dk.may Dk.len
  have := h.lo
  split
  · rfl
  · rw [if_neg (by omega)]

theorem secs_len (D : Dk) : D.secs.length = D.lasts.length := by simp [Dk.secs, Dk.len]
theorem secs_get (D : Dk) (i : Nat) (h : i < D.secs.length) : D.secs[i] = D.sec i := by simp [Dk.secs]

/-- What the rows of 'lasts' read as while the loop runs: those that are still to come as they were. -/
def mid (D : Dk) (left : List (Int × Value)) (i : Nat) : Bs := if (i : Int) ∈ left.map Prod.fst then D.lasts.getD i [] else D.sec i

def MidRow (w : World) (bl : Nat) (cs : Array Value) (D : Dk) (left : List (Int × Value)) : Prop :=
  w.heap[bl]? = some (.cells cs 30 (0, 0)) ∧ ∀ i, i < D.lasts.length → ∃ v, cs[i]? = some v ∧ BytesAt w v (mid D left i)

theorem midRow_start (h : DkAt w p bl bm D cs al vt) : MidRow w bl cs D al := by
  refine ⟨h.row.1, fun i hi => ?_⟩
  obtain ⟨v, h1, h2⟩ := h.row.2.2 i hi
  refine ⟨v, h1, ?_⟩
  unfold mid
  split
  · simpa [List.getD, hi] using h2
  · rename_i hn
    have hl : alook al i = none := alook_none_iff.2 hn
    have hi' : i < D.waits.length := by rw [h.ok.same]; exact hi
    have : D.waits.getD i none = none := by
      cases hw : D.waits[i]? with
      | none => simp [List.getD, hw]
      | some ob =>
        cases ob with
        | none => simp [List.getD, hw]
        | some b =>
          obtain ⟨v', h3, _⟩ := h.opts.2 i b hw
          rw [hl] at h3; simp at h3
    unfold Dk.sec
    rw [this]
    simpa [List.getD, hi] using h2

theorem mid_strike (h : DkAt w p bl bm D cs al vt) {left : List (Int × Value)} (hsub : ∀ q ∈ left, q ∈ al) {q : Int × Value} (hq : q ∈ left) :
    ∃ j : Nat, q.1 = j ∧ j < D.lasts.length ∧ BytesAt w q.2 (D.sec j) ∧ (∀ i, i ≠ j → mid D (left.filter fun x => !(x.1 == q.1)) i = mid D left i) ∧ mid D (left.filter fun x => !(x.1 == q.1)) j = D.sec j := by
  have hl : alook al q.1 = some q.2 := alook_of_mem h.mp.nodup (hsub q hq)
  obtain ⟨j, e, bs, h1, h2⟩ := h.opts.1 _ _ hl
  have hj : j < D.waits.length := (List.getElem?_eq_some_iff.1 h1).1
  refine ⟨j, e, by rw [← h.ok.same]; exact hj, ?_, fun i hi => ?_, ?_⟩
  · have : D.sec j = bs := by simp [Dk.sec, List.getD, h1]
    rw [this]; exact h2
  · unfold mid
    have : (i : Int) ∈ (left.filter fun x => !(x.1 == q.1)).map Prod.fst ↔ (i : Int) ∈ left.map Prod.fst := by
      simp only [List.mem_map, List.mem_filter]
      constructor
      · rintro ⟨x, ⟨hx, _⟩, e2⟩; exact ⟨x, hx, e2⟩
      · rintro ⟨x, hx, e2⟩
        refine ⟨x, ⟨hx, ?_⟩, e2⟩
        simp [e2, e]; omega
    simp only [this]
  · unfold mid
    rw [if_neg]
    intro c
    obtain ⟨x, hx, e2⟩ := List.mem_map.1 c
    have := (List.mem_filter.1 hx).2
    simp [e2, e] at this

theorem midRow_step (h : DkAt w p bl bm D cs al vt) {w1 : World} {cs1 : Array Value} {left : List (Int × Value)} (k : Kp [bl] w w1) (hsub : ∀ q ∈ left, q ∈ al) {q : Int × Value} (hq : q ∈ left) (hm : MidRow w1 bl cs1 D left) (hsz : D.lasts.length ≤ cs1.size) {j : Nat} (hj : q.1 = j) :
    MidRow (w1.setCell ⟨bl, j, none⟩ q.2) bl (cs1.setIfInBounds j q.2) D (left.filter fun x => !(x.1 == q.1)) := by
  obtain ⟨j', e1, h1, h2, h3, h4⟩ := mid_strike h hsub hq
  have : j = j' := by omega
  subst this
  have hk := Kp.setCell w1 ⟨bl, j, none⟩ q.2
  have nb : NoB w1 [bl] := NoB.cons hm.1 (by simp) (NoB.nil _)
  have nb0 : NoB w [bl] := NoB.cons h.row.1 (by simp) (NoB.nil _)
  refine ⟨blk_setCell hm.1 _ _, fun i hi => ?_⟩
  by_cases e : i = j
  · subst e
    exact ⟨q.2, by simp [Array.getElem?_setIfInBounds]; omega, by rw [h4]; exact (h2.kp k nb0).kp hk nb⟩
  · obtain ⟨v, g1, g2⟩ := hm.2 i hi
    exact ⟨v, by rw [Array.getElem?_setIfInBounds, if_neg (fun c => e c.symm)]; exact g1, by rw [h3 i e]; exact g2.kp hk nb⟩

theorem flush_ok (h : D.Ok) : Dk.Ok { D with lasts := D.secs, waits := List.replicate D.len none } := by
  obtain ⟨a, b, c, d, e, f, g, i, j, k, l⟩ := h
  refine ⟨by simp [secs_len, Dk.len], by rw [secs_len]; exact b, by rw [secs_len]; exact c, fun x hx => ?_, fun x hx => ?_, f, g, i, by rw [secs_len]; exact j, k, l⟩
  · obtain ⟨i', hi', rfl⟩ := List.mem_map.1 hx
    exact sec_len ⟨a, b, c, d, e, f, g, i, j, k, l⟩ i' (by simpa [Dk.len] using hi')
  · exact absurd (List.mem_replicate.1 hx).2 (by simp)

theorem aft_sec (D : Dk) (i : Nat) : D.aft.sec i = D.sec i := by unfold Dk.sec; rw [aft_lasts, aft_waits]
theorem aft_secs (D : Dk) : D.aft.secs = D.secs := by
  unfold Dk.secs Dk.len
  rw [aft_lasts]
  exact List.map_congr_left fun i _ => aft_sec D i
theorem aft_len (D : Dk) : D.aft.len = D.len := by unfold Dk.len; rw [aft_lasts]

set_option maxHeartbeats 2000000 in
theorem dk_flush (p bl bm : Nat) (D : Dk) (w : World) (h : IsDk w p bl bm D) :
    Calls Tryz.prog 71 #[.pointer (some ⟨p, 0, none⟩)] w fun e w' => e = .returned (.int .i64 D.flush.1) ∧ ∃ bm', IsDk w' p bl bm' D.flush.2 ∧ (bm' = bm ∨ w.heap.size ≤ bm') ∧ Kp [p, bl, bm] w w' := by
  have H := Lib.hid h
  have hm := may0 h.ok
  cases hd : D.dead with
  | true =>
    rw [hd, if_pos rfl] at hm
    have HM := Lib.hid hm
    have HD := Lib.hid hd
    clear hm hd h
    go_enter Tryz.func71, Tryz.ntmps71
    go_wp2_with (go_at_call 118; refine (dk_may p bl bm D _ _ H.out).mono ?_; rintro e w' ⟨rfl, rfl⟩; rw [HM.out])
    go_ret
    have e : D.flush = (12, D) := by unfold Dk.flush; rw [if_pos HD.out]
    exact ⟨by rw [e]; rfl, bm, by rw [e]; exact H.out, .inl rfl, Kp.refl _ _⟩
  | false =>
    rw [hd, if_neg (by simp)] at hm
    have HM := Lib.hid hm
    have HD := Lib.hid hd
    clear hm hd h
    cases hf : D.fails with
    | true =>
      have HF := Lib.hid hf
      clear hf
      go_enter Tryz.func71, Tryz.ntmps71
      go_wp2_with (first
        | (go_at_call 118; refine (dk_may p bl bm D _ _ H.out).mono ?_; rintro e w' ⟨rfl, rfl⟩; rw [HM.out])
        | (go_at_call 119; refine (dk_fails p bl bm D _ H.out).mono ?_; rintro e w1 ⟨rfl, hd1, hk1⟩; rw [HF.out]))
      go_ret
      have e : D.flush = (12, D.aft) := by unfold Dk.flush; rw [if_neg (by simp [HD.out]), if_pos HF.out]
      exact ⟨by rw [e]; rfl, bm, by rw [e]; exact hd1, .inl rfl, hk1.mono (by simp)⟩
    | false =>
      have HF := Lib.hid hf
      clear hf
      have e0 : D.flush = (0, { D.aft with lasts := D.aft.secs, waits := List.replicate D.aft.len none }) := by unfold Dk.flush; rw [if_neg (by simp [HD.out]), if_neg (by simp [HF.out]), aft_secs, aft_len]
      have E0 := Lib.hid e0
      clear e0
      go_enter Tryz.func71, Tryz.ntmps71
      go_wp2_with (first
        | (go_at_call 118; refine (dk_may p bl bm D _ _ H.out).mono ?_; rintro e w' ⟨rfl, rfl⟩; rw [HM.out])
        | (go_at_call 119; refine (dk_fails p bl bm D _ H.out).mono ?_; rintro e w1 ⟨rfl, ⟨cs1, al1, vt1, g1⟩, hk1⟩; rw [HF.out]; have c1 := cell_of g1.own 1 (v := .map (some bm)) rfl; have G1 := Lib.hid g1; clear g1)
        | (at_range; refine wpList_range_map rfl _ _ rfl Tryz.underlying109 rfl G1.out.mp ?_))
      intro w2 hit hk2
      have hbm2 : bm < w1.heap.size := G1.out.mp.lt
      have HI := Lib.hid hit
      clear hit
      have hl2 := Lib.hid (lt_of_blk G1.out.own)
      have hl3 := Lib.hid (lt_of_blk G1.out.row.1)
      go_wp2
      go_loopg [] al1.length (fun k wr => ∃ left cur cs2, k = left.length ∧ (∀ q ∈ left, q ∈ al1) ∧ IterB wr w1.heap.size bm al1 left cur ∧ MidRow wr bl cs2 D.aft left ∧ cs2.size = cs1.size ∧ Kp [bl] w1 wr)
      case atStart => exact ⟨al1, none, cs1, rfl, fun q hq => hq, HI.out, midRow_start (G1.out.kp0 hk2), rfl, hk2.mono (by simp)⟩
      case round =>
        obtain ⟨left, cur, cs2, rfl, hsub, hit, hmr, hsz, hkr⟩ := hrel
        have HI2 := Lib.hid hit
        have HR := Lib.hid hmr
        have HZ := Lib.hid hsz
        have HS := Lib.hid hsub
        have hl4 := Lib.hid hkr
        have o1 := hkr.at G1.out.own (by simpa using G1.out.ne1)
        have c1 := cell_of o1 1 (v := .map (some bm)) rfl
        have c0 := cell_of o1 0 (v := .slice (some ⟨bl, 0, none⟩) D.aft.lasts.length cs1.size) rfl
        have f1 := free_of o1 1
        have O1 := Lib.hid o1
        clear hit hmr hsz hsub hkr o1
        go_wp2_with (at_next; refine wpList_next_map rfl _ rfl rfl HI2.out ?_ ?_)
        · intro hleft
          have HLf := Lib.hid hleft
          clear hleft
          have hmm := @run_makeMap Tryz.prog
          have oa := (Kp.alloc wr (.map #[] 0)).at O1.out (by simp)
          have c1a := cell_of oa 1 (v := .map (some bm)) rfl
          have f1a := free_of oa 1
          clear oa
          go_wp2
          go_ret
          have hk5 := Kp.alloc wr (.map #[] 0)
          have hk6 := Kp.setCell (wr.alloc (.map #[] 0)) ⟨p, 1, none⟩ (.map (some wr.heap.size))
          have nb5 : NoB (wr.alloc (.map #[] 0)) [p] := NoB.cons (hk5.at O1.out (by simp)) (by simp) (NoB.nil _)
          have nb1 : NoB w1 [bl] := NoB.cons G1.out.row.1 (by simp) (NoB.nil _)
          have hkw : Kp [p, bl, bm] w (wr.alloc (.map #[] 0)) := ((hk1.mono (by simp)).trans hl4.out (by simp)).trans hk5 (by simp)
          have hsz := hkw.size
          have hlt := hl2.out
          refine ⟨by rw [E0.out]; rfl, wr.heap.size, ?_, .inr ?_, ?_⟩
          · rw [E0.out]
            refine ⟨cs2, [], vt1, ⟨?_, ?_, by rw [HZ.out]; exact G1.out.capb, ?_, ?_, ?_, flush_ok H.out.ok.aft⟩⟩
            · rw [blk_setCell (hk5.at O1.out (by simp)), HZ.out, secs_len]; rfl
            · have hr2 := HR.out
              refine ⟨hk6.at (hk5.at hr2.1 (by simp)) (by simpa using G1.out.ne1.symm), by rw [secs_len, HZ.out]; exact G1.out.row.2.1, fun i hi => ?_⟩
              have hi' : i < D.aft.lasts.length := by rw [← secs_len]; exact hi
              obtain ⟨v, g1, g2⟩ := hr2.2 i hi'
              refine ⟨v, g1, ?_⟩
              rw [secs_get]
              have : mid D.aft left i = D.aft.sec i := by unfold mid; rw [HLf.out]; simp
              rw [this] at g2
              exact (g2.kp0 hk5).kp hk6 nb5
            · have hne : wr.heap.size ≠ p := by
                have := lt_of_blk O1.out
                omega
              exact (MapB.new wr).kp hk6 (by simpa using hne)
            · exact ⟨fun i v hv => by simp [alook] at hv, fun j bs hj => by simp [List.getElem?_replicate] at hj⟩
            · have := G1.out.torn.kp hl4.out nb1
              exact (this.kp0 hk5).kp hk6 nb5
          · have := hk1.size; have := hl4.out.size; omega
          · exact hkw.trans hk6 (by simp)
        · intro x v w3 hq hit3 hk3
          have hq1 := hk3.size
          have hne : p ≠ w1.heap.size := by have := hl2.out; omega
          have hne2 : bl ≠ w1.heap.size := by have := hl3.out; omega
          have O3 := Lib.hid (hk3.at O1.out (by simpa using hne))
          have hent := run_entry_map (P := Tryz.prog) hit3
          obtain ⟨j, hj1, hj2, hj3, _, _⟩ := mid_strike G1.out HS.out hq
          obtain ⟨v0, hv0, _⟩ := HR.out.2 j hj2
          have hmr3 : MidRow w3 bl cs2 D.aft left := by
            have nb : NoB wr [w1.heap.size] := by
              obtain ⟨es, c, sn, c0', h1, _⟩ := HI2.out
              exact NoB.cons h1 (by simp) (NoB.nil _)
            refine ⟨hk3.at HR.out.1 (by simpa using hne2), fun i hi => ?_⟩
            obtain ⟨v, g1, g2⟩ := HR.out.2 i hi
            exact ⟨v, g1, g2.kp hk3 nb⟩
          have cj := cell_of hmr3.1 j hv0
          have fj := free_of hmr3.1 j
          have c0 := cell_of O3.out 0 (v := .slice (some ⟨bl, 0, none⟩) D.aft.lasts.length cs1.size) rfl
          simp only at hj1 hj3 hent
          subst hj1
          have hkr3 : Kp [bl] w1 w3 := hl4.out.trans hk3 (fun x hx => .inr (by simp at hx; omega))
          have HM3 := Lib.hid hmr3
          have HI3 := Lib.hid hit3
          have HQ := Lib.hid hq
          have HK3 := Lib.hid hkr3
          obtain ⟨a3, m3, n3, rfl⟩ := hj3.shape
          clear hmr3 hit3 hq hk3 hj3 hv0
          go_wp2
          have hk7 := Kp.setCell w3 ⟨bl, j, none⟩ (.slice a3 m3 n3)
          have hsz3 : D.aft.lasts.length ≤ cs2.size := by rw [HZ.out]; exact G1.out.row.2.1
          have hstep := midRow_step G1.out HK3.out HS.out HQ.out HM3.out hsz3 (q := ((j : Int), .slice a3 m3 n3)) rfl
          have hlen : (left.filter fun q => !(q.1 == (j : Int))).length < left.length := by
            refine List.length_filter_lt_length_iff_exists.2 ⟨_, HQ.out, by simp⟩
          have hne4 : bm ≠ bl := fun c => G1.out.ne3 c.symm
          have hit4 := HI3.out.kp hk7 (by simpa using fun c => hne2 c.symm) (by simpa using hne4)
          go_roundg (left.filter fun q => !(q.1 == (j : Int))).length
          case measure => exact hlen
          case rel =>
            exact ⟨_, _, cs2.setIfInBounds j (.slice a3 m3 n3), rfl, fun q hq => HS.out q (List.mem_filter.1 hq).1, hit4, hstep, by rw [Array.size_setIfInBounds]; exact HZ.out, HK3.out.and hk7⟩
end
end Go.Proofs.YtonkeialdfofcaaGreatDoor
