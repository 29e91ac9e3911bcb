/-
  The disk's New, and its small questions: their contracts.
-/
import Derived.Test.YtonkeialdfofcaaGreatDoorDk4
import Derived.Deep.RegionLaw
namespace Go.Proofs.YtonkeialdfofcaaGreatDoor
open Go.RowKit Go

/-- A block of n noughts. -/
def zN (n : Nat) : Array Value := (u8s (zeros n)).toArray
theorem size_zN (n : Nat) : (zN n).size = n := by simp [zN, length_u8s, zeros]
theorem made_zN (n : Nat) : madeCells #[Value.int .u8 0] n = zN n := by
  apply Array.ext'
  rw [toList_madeCells_one]
  simp [zN, u8s, zeros, bv]
theorem run_makeN (n : Nat) (w : World) (hn : n ≤ 1000000) : (Instr.makeSlice 30 (.int .i64 (n : Int)) (.int .i64 (n : Int))).run Tryz.prog w = .ok (.slice (some ⟨w.heap.size, 0, none⟩) n n) (w.alloc (.cells (zN n) 5)) := by
  obtain ⟨i, hi, hz, h1, h2⟩ := info_parts info5
  have hr := run_make (P := Tryz.prog) w 30 5 i _ Tryz.underlying30 hi hz .i64 .i64 n n (by omega) (by omega) (by rw [h2]; omega) (by omega)
  rw [h1, Int.toNat_natCast, Nat.mul_one] at hr
  rw [hr]
  show _ = Result.ok _ (w.alloc (.cells (zN n) _))
  rw [← made_zN]
  rfl
theorem run_make256 (w : World) : (Instr.makeSlice 30 (.int .i64 256) (.int .i64 256)).run Tryz.prog w = .ok (.slice (some ⟨w.heap.size, 0, none⟩) 256 256) (w.alloc (.cells (zN 256) 5)) := run_makeN 256 w (by decide)
theorem zN_bytes {w : World} {b n : Nat} (h : w.heap[b]? = some (.cells (zN n) 5 (0, 0))) : BytesAt w (.slice (some ⟨b, 0, none⟩) n n) (zeros n) := by
  have e : (zeros n).length = n := by simp [zeros]
  exact .inr ⟨b, 0, n, zN n, (0, 0), by rw [e], by omega, h, by rw [size_zN]; omega, fun i _ => by simp [zN]⟩

theorem info30 : (Tryz.prog.info? 30).map (fun i => (i.zero, i.size, i.bytes)) = some (some (.slice none 0 0), 1, 24) := by kernel_rfl

/-- A row of slices of the call's own: its elements. -/
def OwnR (w : World) (base : Nat) (v : Value) (vs : List Value) : Prop := w.ownsRow base 30 1 v vs.length vs

theorem OwnR.kp {S : List Nat} {w w' : World} {base : Nat} {v : Value} {vs : List Value} (h : OwnR w base v vs) (k : Kp S w w') (hn : ∀ x ∈ v.ownBlock.toList, x ∉ S) : OwnR w' base v vs := by
  obtain ⟨h1, h2 | ⟨g, cap, cur, rfl, hb, hg, r⟩⟩ := h
  · exact ⟨h1, .inl h2⟩
  · exact ⟨h1, .inr ⟨g, cap, cur, rfl, hb, k.at hg (hn g (by simp [Value.ownBlock])), r⟩⟩

theorem step_append_own {P : Program} {ops : Array Oper} {o : Oper} {a : Act} {w : World} {K : Act → World → Prop} {Q : Exit → Act → World → Prop} {E : Prop} (hgd : o.guard = none) (s x : Operand) (t : TypeId)
    (ho : o.op = .call { callee := .builtin .append, args := #[s, x], argTypes := #[t, t] })
    (base : Nat) (e : TypeId) (i : TypeInfo) (z : Value) (size bytes : Nat) (ht : P.underlying t = some (.slice e)) (hi : P.info? e = some i) (hz : i.zero = some z)
    (hsize : i.size = size) (hby : i.bytes = bytes) (hzs : z.cells.size = size) (hsz : 0 < size)
    (v : Value) (n : Nat) (xs : List Value) (hs : a.eval s = v) (hown : w.ownsRow base e size v n xs)
    (ad : Addr) (m c : Nat) (news : List Value) (hx : a.eval x = .slice (some ad) m c) (hl : news.length = m * size) (hnews : ∀ j u, news[j]? = some u → w.cell? (ad.add j) = some u) (h1 : ∀ u ∈ news, u.oneCell' = true)
    (h63 : n + m ≤ maxLen) (hbytes : (n + m) * bytes ≤ 140737488355328) (hbase : base ≤ w.heap.size)
    (h : ∀ v' w', w'.ownsRow base e size v' (n + m) (xs ++ news) → w.grownBy w' v.ownBlock → (v' = .slice none 0 0 ↔ v = .slice none 0 0 ∧ m = 0) → K (a.put o.dst v') w') :
    if Region.wanted o (yielded ops a.tmps) = true then Oper.wp P o a w K Q else E := by
  have hw : Region.wanted o (yielded ops a.tmps) = true := by simp [Region.wanted, hgd]
  rw [if_pos hw]
  exact wp_append_own w s x t ho base e i z size bytes ht hi hz hsize hby hzs hsz v n xs hs hown ad m c news hx hl hnews h1 h63 hbytes hbase h

theorem OwnR.shape {w : World} {base : Nat} {v : Value} {vs : List Value} (h : OwnR w base v vs) : ∃ a n c, v = .slice a n c := by
  obtain ⟨_, ⟨rfl, _⟩ | ⟨g, cap, cur, rfl, _⟩⟩ := h
  · exact ⟨_, _, _, rfl⟩
  · exact ⟨_, _, _, rfl⟩
theorem OwnR.lt {w : World} {base : Nat} {v : Value} {vs : List Value} (h : OwnR w base v vs) : ∀ x ∈ v.ownBlock.toList, base ≤ x ∧ x < w.heap.size := by
  intro x hx
  exact World.ownsRow.lt h x (by simpa using hx)
def NewDk (w : World) (p bm : Nat) (vl : Value) : Prop := w.heap[p]? = some (.cells #[vl, .map (some bm), .bool false, .bool false, .int .i64 0, .int .i64 0, .int .i64 (-1), .slice none 0 0, .int .i64 0, .int .i64 0] 111 (0, 0))
theorem one_at {w : World} {b : Nat} {v : Value} {T : TypeId} {fz : Nat × Nat} (h : w.heap[b]? = some (.cells #[v] T fz)) : ∀ j u, [v][j]? = some u → w.cell? ((⟨b, 0, none⟩ : Addr).add j) = some u := by
  intro j u hu
  have : j = 0 := by have := (List.getElem?_eq_some_iff.1 hu).1; simpa using this
  subst this
  rw [addr_add]
  exact cell_of h _ (by simpa using hu)
theorem NewDk.kp {S : List Nat} {w w' : World} {p bm : Nat} {vl : Value} (h : NewDk w p bm vl) (k : Kp S w w') (hn : p ∉ S) : NewDk w' p bm vl := k.at h hn

set_option maxRecDepth 100000 in
set_option maxHeartbeats 2000000 in
theorem dk_new (n : Nat) (w : World) (h1 : 32 ≤ n) (h2 : n ≤ 1900) :
    Calls Tryz.prog 16 #[.int .i64 n] w fun e w' => ∃ p bl bm, e = .returned (.pointer (some ⟨p, 0, none⟩)) ∧ IsDk w' p bl bm ⟨List.replicate n (zeros 256), List.replicate n none, false, false, 0, 0, -1, [], 0, 0⟩ ∧ w.heap.size ≤ p ∧ w.heap.size ≤ bl ∧ w.heap.size ≤ bm ∧ Kp [] w w' := by
  obtain ⟨i0, hi, hz0, hz1, hz2⟩ := info_parts info30
  have hmm := @run_makeMap Tryz.prog
  have hmk := run_make256
  go_enter Tryz.func16, Tryz.ntmps16
  go_wp2
  go_loopw [14] (fun i wr => ∃ (k : Nat) (vl : Value) (vs : List Value), k ≤ n ∧ i = .int .i64 k ∧ vs.length = k ∧ NewDk wr (w.heap.size + 1) w.heap.size vl ∧ OwnR wr (w.heap.size + 2) vl vs ∧ (∀ v ∈ vs, BytesAt wr v (zeros 256)) ∧ MapB wr w.heap.size [] ∧ Kp [] w wr) (fun i _ => n - (intOf i).toNat)
  case atStart =>
    refine ⟨0, .slice none 0 0, [], by omega, rfl, rfl, ?_, World.ownsRow_nil _ _ _ _, by simp, ?_, (Kp.alloc _ _).and (Kp.alloc _ _)⟩
    · have e1 : (w.alloc (.map #[] 0)).heap.size = w.heap.size + 1 := by simp
      have := blk_alloc_new (w.alloc (.map #[] 0)) (.cells #[.slice none 0 0, .map (some w.heap.size), .bool false, .bool false, .int .i64 0, .int .i64 0, .int .i64 (-1), .slice none 0 0, .int .i64 0, .int .i64 0] 111)
      rw [e1] at this
      exact this
    · exact (MapB.new w).kp (Kp.alloc _ _) (by simp)
  case round =>
    obtain ⟨k, vl, vs, hkn, rfl, hvs, hnd, hown, hby, hmap, hkr⟩ := hrel
    have c0 := cell_of hnd 0 (v := vl) rfl
    have f0 := free_of hnd 0
    have HN := Lib.hid hnd
    have HO := Lib.hid hown
    have HB := Lib.hid hby
    have HMp := Lib.hid hmap
    have HK := Lib.hid hkr
    have HV := Lib.hid hvs
    clear hnd hown hby hmap hkr hvs
    obtain ⟨a0, n0, cp0, rfl⟩ := HO.out.shape
    have c0a : ∀ A, (wr.alloc A).cell? ⟨w.heap.size + 1, 0, none⟩ = some (.slice a0 n0 cp0) := fun A => cell_of ((Kp.alloc wr _).at HN.out (by simp)) 0 rfl
    have c0b : ∀ A B, ((wr.alloc A).alloc B).cell? ⟨w.heap.size + 1, 0, none⟩ = some (.slice a0 n0 cp0) := fun A B => cell_of ((Kp.alloc _ _).at ((Kp.alloc wr _).at HN.out (by simp)) (by simp)) 0 rfl
    by_cases hc : k < n
    · go_wp2
      go_region_law (refine step_append_own rfl _ _ 88 rfl (w.heap.size + 2) 30 i0 (.slice none 0 0) 1 24 Tryz.underlying88 hi hz0 hz1 hz2 rfl (by decide) _ vs.length vs rfl (HO.out.kp (((Kp.alloc wr _).and (Kp.alloc _ _)).and (Kp.drew _)) (by simp)) _ 1 1 [.slice (some ⟨wr.heap.size, 0, none⟩) 256 256] rfl rfl (one_at (heap_alloc2_new wr _ _)) (by simp [Value.oneCell']) (by rw [HV.out]; unfold maxLen; omega) (by rw [HV.out]; omega) (by have := HK.out.size; simp; omega) ?_; intro v1 w1 ho1 hg1 _; have ho1' : OwnR w1 (w.heap.size + 2) v1 (vs ++ [.slice (some ⟨wr.heap.size, 0, none⟩) 256 256]) := (by unfold OwnR; simpa using ho1); obtain ⟨a1, n1, cp1, rfl⟩ := ho1'.shape; have hk1 := Kp.of_grown hg1; have hp := HO.out.lt; clear ho1 hg1; have hnd1 := NewDk.kp (HN.out.kp (((Kp.alloc wr (.cells (zN 256) 5)).and (Kp.alloc _ (.cells #[.slice (some ⟨wr.heap.size, 0, none⟩) 256 256] 30))).and (Kp.drew _)) (by simp)) hk1 (fun c => by have := hp _ c; omega); have c1 := cell_of hnd1 0 (v := .slice a0 n0 cp0) rfl; have f1 := free_of hnd1 0; have HN1 := Lib.hid hnd1; have HO1 := Lib.hid ho1'; have HK1 := Lib.hid hk1; have HP := Lib.hid hp; clear ho1' hk1 hnd1 hp)
      all_goals
        go_wp2
        have hk0 : Kp [] wr (((wr.alloc (.cells (zN 256) 5)).alloc (.cells #[.slice (some ⟨wr.heap.size, 0, none⟩) 256 256] 30)).drew) := ((Kp.alloc wr _).and (Kp.alloc _ _)).and (Kp.drew _)
        have hk2 := Kp.setCell w1 ⟨w.heap.size + 1, 0, none⟩ (.slice a1 n1 cp1)
        have hk3 : Kp (Value.slice a0 n0 cp0).ownBlock.toList wr w1 := (hk0.mono (by simp)).and HK1.out
        have hk4 : Kp [] w w1 := HK.out.trans hk3 (fun x hx => .inr (by have := HP.out x hx; omega))
        have hk5 : Kp [] w (w1.setCell ⟨w.heap.size + 1, 0, none⟩ (.slice a1 n1 cp1)) := hk4.trans hk2 (by simp)
        have nb1 : NoB w1 [w.heap.size + 1] := NoB.cons HN1.out (by simp) (NoB.nil _)
        have nbr : NoB wr (Value.slice a0 n0 cp0).ownBlock.toList := by
          rcases HO.out.2 with ⟨e, _⟩ | ⟨g, cap, cur, e, _, hg, _⟩
          · simp only [Value.slice.injEq] at e
            obtain ⟨rfl, _, _⟩ := e
            exact NoB.nil _
          · simp only [Value.slice.injEq] at e
            obtain ⟨rfl, _, _⟩ := e
            exact NoB.cons hg (by simp) (NoB.nil _)
        have hmem : ∀ x ∈ (Value.slice a0 n0 cp0).ownBlock.toList, w.heap.size + 2 ≤ x := fun x hx => (HP.out x hx).1
        go_roundw
        case rel =>
          refine ⟨k + 1, .slice a1 n1 cp1, vs ++ [.slice (some ⟨wr.heap.size, 0, none⟩) 256 256], by omega, by go_num, by simp [HV.out], ?_, ?_, ?_, ?_, hk5⟩
          · have := blk_setCell HN1.out 0 (.slice a1 n1 cp1)
            exact this
          · exact HO1.out.kp hk2 (fun x hx c => by have := HO1.out.lt x hx; simp at c; omega)
          · intro v hv
            rcases List.mem_append.1 hv with hv | hv
            · exact ((HB.out v hv).kp hk3 nbr).kp hk2 nb1
            · obtain rfl : v = _ := by simpa using hv
              have h0 : ((wr.alloc (.cells (zN 256) 5)).alloc (.cells #[.slice (some ⟨wr.heap.size, 0, none⟩) 256 256] 30)).drew.heap[wr.heap.size]? = some (.cells (zN 256) 5 (0, 0)) := (Kp.alloc _ _).at (blk_alloc_new wr _) (by simp)
              have h1 := HK1.out.at h0 (fun c => by have := HP.out _ c; omega)
              exact (zN_bytes h1).kp hk2 nb1
          · exact (HMp.out.kp hk3 (fun c => by have := hmem _ c; omega)).kp hk2 (by simp)
        case measure => simp [intOf]; omega
    · have : k = n := by omega
      subst this
      go_wp2
      go_ret
      obtain ⟨e1, ⟨e2, e3⟩ | ⟨g, cap, cur, e2, hb2, hg, hle, hmx, hsz, htk⟩⟩ := HO.out
      · have := HV.out; omega
      · simp only [Value.slice.injEq] at e2
        obtain ⟨rfl, rfl, rfl⟩ := e2
        have hnd := HN.out
        have hv := HV.out
        rw [Nat.mul_one] at hsz htk
        have hl : (List.replicate k (zeros 256)).length = k := List.length_replicate
        refine ⟨w.heap.size + 1, g, w.heap.size, rfl, ⟨cur, [], .slice none 0 0, ⟨?_, ⟨hg, by rw [hl]; omega, fun i hi => ?_⟩, ?_, HMp.out, ?_, BytesAt.nil _, ?_⟩⟩, by omega, by omega, Nat.le_refl _, HK.out⟩
        · show wr.heap[w.heap.size + 1]? = some (.cells #[.slice (some ⟨g, 0, none⟩) (List.replicate k (zeros 256)).length cur.size, .map (some w.heap.size), .bool false, .bool false, .int .i64 0, .int .i64 0, .int .i64 (-1), .slice none 0 0, .int .i64 0, .int .i64 0] 111 (0, 0))
          rw [hl, hsz, ← hv]
          exact hnd
        · have hi' : i < vs.length := by rw [hl] at hi; omega
          have e3 : cur.toList[i]? = some vs[i] := by
            have := congrArg (fun l => l[i]?) htk
            simp only [List.getElem?_take, if_pos hi', List.getElem?_eq_getElem hi'] at this
            exact this
          refine ⟨vs[i], by simpa using e3, ?_⟩
          have := HB.out vs[i] (List.getElem_mem hi')
          simpa using this
        · rw [hsz]; exact hmx
        · exact ⟨fun i v hv => by simp [alook] at hv, fun j bs hj => by simp [List.getElem?_replicate] at hj⟩
        · refine ⟨by simp, by simpa using h1, by simpa using h2, fun b hb => ?_, fun b hb => ?_, by show (-9223372036854775808 : Int) ≤ 0; decide, by show (0 : Int) ≤ 9223372036854775807; decide, by show 0 ≤ 256; decide, by show (-1 : Int) < _; simp; omega, by simp, fun _ => rfl⟩
          · rw [(List.mem_replicate.1 hb).2]; simp [zeros]
          · exact absurd (List.mem_replicate.1 hb).2 (by simp)
end Go.Proofs.YtonkeialdfofcaaGreatDoor
