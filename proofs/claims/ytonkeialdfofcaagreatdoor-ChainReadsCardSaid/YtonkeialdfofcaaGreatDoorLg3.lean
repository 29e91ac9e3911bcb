/-
  The log's tag, num, an anchor's bytes, and whether an anchor stands: their contracts.
-/
import Derived.Test.YtonkeialdfofcaaGreatDoorLg2
import Derived.Deep.DeepCutAuto
namespace Go.Proofs.YtonkeialdfofcaaGreatDoor
open Go.RowKit Go

theorem lg_num (n at_ : Nat) (v : Value) (bs : List UInt8) (w : World) (hb : BytesAt w v bs) (hn : n = 2 ∨ n = 4 ∨ n = 8) (h : at_ + n ≤ bs.length) (hl : bs.length ≤ 1000000) :
    Calls Tryz.prog 164 #[v, .int .i64 at_, .int .i64 n] w fun e w' => e = .returned (.int .u64 (numAt bs at_ n : Nat)) ∧ w = w' := by
  have H := Lib.hid (take_bytes n at_ v bs w hb hn h hl)
  obtain ⟨a, m, c, rfl⟩ := hb.shape
  clear hb hn h hl
  go_enter Tryz.func164, Tryz.ntmps164
  go_wp2_with (go_at_call 147; refine H.out.mono ?_; rintro e w' ⟨rfl, rfl⟩)
  go_ret
  exact ⟨rfl, rfl⟩

theorem lg_tag (v : Value) (bs : List UInt8) (w : World) (hb : BytesAt w v bs) (h : 8 ≤ bs.length) (hl : bs.length ≤ 1000000) :
    Calls Tryz.prog 163 #[v] w fun e w' => e = .returned (.int .u64 (numAt bs 0 8 : Nat)) ∧ w = w' := by
  have H := Lib.hid (lg_num 8 0 v bs w hb (by simp) (by omega) hl)
  obtain ⟨a, m, c, rfl⟩ := hb.shape
  clear hb h hl
  go_enter Tryz.func163, Tryz.ntmps163
  go_wp2_with (go_at_call 164; refine H.out.mono ?_; rintro e w' ⟨rfl, rfl⟩)
  go_ret
  exact ⟨rfl, rfl⟩

/-- An anchor's bytes. -/
def anchorB (s turn place ring : Nat) : Bs := putN 8 s ++ putN 8 turn ++ putN 4 place ++ putN 4 ring ++ zeros 224 ++ putN 8 s
theorem length_anchorB (s turn place ring : Nat) : (anchorB s turn place ring).length = 256 := by
  have h : (zeros 224).length = 224 := List.length_replicate
  simp only [anchorB, List.length_append, length_putN, h]

theorem anch_cells {W w' : World} {b : Nat} {s t p r : Value} (k : Kp [] W w') (h : W.heap[b]? = some (.cells #[s, t, p, r] 114 (0, 0))) :
    w'.cell? ⟨b, 0, none⟩ = some s ∧ w'.cell? ⟨b, 1, none⟩ = some t ∧ w'.cell? ⟨b, 2, none⟩ = some p ∧ w'.cell? ⟨b, 3, none⟩ = some r :=
  have h' := k.at h (by simp)
  ⟨cell_of h' 0 rfl, cell_of h' 1 rfl, cell_of h' 2 rfl, cell_of h' 3 rfl⟩

set_option maxHeartbeats 1000000 in
theorem anchor_bytes (s turn place ring : Nat) (w : World) (h1 : s < 18446744073709551616) (h2 : turn < 18446744073709551616) (h3 : place < 4294967296) (h4 : ring < 4294967296) :
    Calls Tryz.prog 75 #[.agg #[.int .u64 s, .int .u64 turn, .int .i64 place, .int .i64 ring]] w fun e w' => ∃ v, e = .returned v ∧ OwnB w' w.heap.size v (anchorB s turn place ring) ∧ Kp [] w w' := by
  have HS := Lib.hid (show s < 18446744073709551616 from h1)
  have HT := Lib.hid (show turn < 18446744073709551616 from h2)
  clear h1 h2
  have HP := Lib.hid (show place < 18446744073709551616 by omega)
  have HR := Lib.hid (show ring < 18446744073709551616 by omega)
  have cvp : IntKind.u64.wrap (place : Int) = place := IntWalk.u64_in _ (by omega)
  have cvr : IntKind.u64.wrap (ring : Int) = ring := IntWalk.u64_in _ (by omega)
  go_enter Tryz.func75, Tryz.ntmps75
  go_upto_region 1 with fail
  have hB : (w.alloc (.cells #[.int .u64 s, .int .u64 turn, .int .i64 place, .int .i64 ring] 114)).heap[w.heap.size]? = some (.cells #[.int .u64 s, .int .u64 turn, .int .i64 place, .int .i64 ring] 114 (0, 0)) := blk_alloc_new _ _
  have hk0 := Kp.alloc w (.cells #[.int .u64 s, .int .u64 turn, .int .i64 place, .int .i64 ring] 114)
  generalize w.alloc (.cells #[.int .u64 s, .int .u64 turn, .int .i64 place, .int .i64 ring] 114) = W at *
  obtain ⟨c0, c1, c2, c3⟩ := anch_cells (Kp.refl [] W) hB
  have HB := Lib.hid hB
  have HK := Lib.hid hk0
  have hs0 := hk0.size
  clear hB hk0
  go_cut [3] (fun v wx => ∃ a n c, v = .slice a n c ∧ OwnB wx w.heap.size v (putN 8 s ++ putN 8 turn) ∧ Kp [] W wx)
  case first =>
    go_region_with (first
      | (go_at_call_of 120 (Value.slice none 0 0); refine (put_b _ [] s 8 _ (BytesAt.nil _) (by simp) HS.out (by omega)).mono ?_; rintro e w1 ⟨v1, rfl, ho1, hk1⟩; obtain ⟨a1, n1, cp1, rfl⟩ := ho1.bytes.shape; obtain ⟨d0, d1, d2, d3⟩ := anch_cells hk1 HB.out; have HO1 := Lib.hid ho1; have HK1 := Lib.hid hk1; clear ho1 hk1)
      | (go_at_call 120; refine (put_b _ _ turn 8 _ HO1.out.bytes (by simp [length_putN]) HT.out (by omega)).mono ?_; rintro e w2 ⟨v2, rfl, ho2, hk2⟩; obtain ⟨a2, n2, cp2, rfl⟩ := ho2.bytes.shape; have HO2 := Lib.hid ho2; have HK2 := Lib.hid hk2; clear ho2 hk2))
    all_goals
      go_wp2_with fail
      go_meet
      have hk3 := ((Kp.drew W).and HK1.out).and HK2.out
      exact ⟨_, _, _, rfl, HO2.out.mono (by have := HK1.out.size; simp at this; omega), hk3⟩
  case rest =>
    obtain ⟨a3, n3, cp3, rfl, ho3, hk3⟩ := hcut
    have hs3 := hk3.size
    have HO3 := Lib.hid ho3
    have HK3 := Lib.hid hk3
    obtain ⟨d0, d1, d2, d3⟩ := anch_cells hk3 HB.out
    clear ho3 hk3 c0 c1 c2 c3
    go_upto_region 2 with fail
    go_cut [3] (fun v wx => ∃ a n c, v = .slice a n c ∧ OwnB wx w.heap.size v (putN 8 s ++ putN 8 turn ++ putN 4 place ++ putN 4 ring) ∧ Kp [] W wx)
    case first =>
      go_region_with (first
        | (go_at_call_of 120 (Value.slice a3 n3 cp3); refine (put_b _ (putN 8 s ++ putN 8 turn) place 4 _ (by exact HO3.out.bytes.kp0 (Kp.drew _)) (by simp [length_putN]) HP.out (by omega)).mono ?_; rintro e w1 ⟨v1, rfl, ho1, hk1⟩; obtain ⟨a1, n1, cp1, rfl⟩ := ho1.bytes.shape; obtain ⟨e0, e1, e2, e3⟩ := anch_cells ((HK3.out.and (Kp.drew _)).and hk1) HB.out; have HO1 := Lib.hid ho1; have HK1 := Lib.hid hk1; clear ho1 hk1)
        | (go_at_call 120; refine (put_b _ _ ring 4 _ HO1.out.bytes (by simp [length_putN]) HR.out (by omega)).mono ?_; rintro e w2 ⟨v2, rfl, ho2, hk2⟩; obtain ⟨a2, n2, cp2, rfl⟩ := ho2.bytes.shape; have HO2 := Lib.hid ho2; have HK2 := Lib.hid hk2; clear ho2 hk2))
      all_goals
        go_wp2_with fail
        go_meet
        have hk4 := ((HK3.out.and (Kp.drew _)).and HK1.out).and HK2.out
        exact ⟨_, _, _, rfl, HO2.out.mono (by have := HK1.out.size; simp at this; omega), hk4⟩
    case rest =>
      obtain ⟨a4, n4, cp4, rfl, ho4, hk4⟩ := hcut
      have hs4 := hk4.size
      have hn4 : n4 = 24 := by
        have := ho4.bytes.slice
        obtain ⟨a, c, e⟩ := this
        simp only [Value.slice.injEq] at e
        rw [e.2.1]; simp [length_putN]
      subst hn4
      have HO4 := Lib.hid ho4
      have HK4 := Lib.hid hk4
      obtain ⟨e0, e1, e2, e3⟩ := anch_cells hk4 HB.out
      clear ho4 hk4 d0 d1 d2 d3
      have hl4 : (putN 8 s ++ putN 8 turn ++ putN 4 place ++ putN 4 ring).length = 24 := by simp [length_putN]
      have HL4 := Lib.hid hl4
      clear hl4
      generalize hX : putN 8 s ++ putN 8 turn ++ putN 4 place ++ putN 4 ring = X at *
      have HX := Lib.hid hX
      clear hX
      go_wp2_with (at_builtin; refine wpList_append_zeros rfl _ _ rfl w.heap.size _ X 224 _ rfl rfl rfl HO4.out (by rw [HL4.out]; decide) (by omega) ?_)
      intro v5 w5 ho5 hk5
      obtain ⟨a5, n5, cp5, rfl⟩ := ho5.bytes.shape
      have hk45 : Kp [] w w5 := (HK.out.and HK4.out).trans hk5 (fun x hx => .inr (HO4.out.own x hx))
      have hb5 : w5.heap[w.heap.size]? = some (.cells #[.int .u64 s, .int .u64 turn, .int .i64 place, .int .i64 ring] 114 (0, 0)) := by
        refine hk5.at (HK4.out.at HB.out (by simp)) ?_
        intro c
        obtain ⟨e1', ⟨e2', _⟩ | ⟨g, cap, cur, e2', _, hg, _⟩⟩ := HO4.out
        · simp only [Value.slice.injEq] at e2'
          rw [e2'.1] at c; simp [Value.ownBlock] at c
        · simp only [Value.slice.injEq] at e2'
          rw [e2'.1] at c
          simp [Value.ownBlock] at c
          rw [← c, HK4.out.at HB.out (by simp)] at hg
          simp at hg
      obtain ⟨f0, f1, f2, f3⟩ := anch_cells (Kp.refl [] w5) hb5
      have HO5 := Lib.hid ho5
      have HK5 := Lib.hid hk45
      have hs5 := hk45.size
      clear ho5 hk45 hk5 hb5 e0 e1 e2 e3
      go_wp2_with (go_at_call 120; refine (put_b _ _ s 8 _ HO5.out.bytes ?_ HS.out (by omega)).mono ?_)
      case refine_1 => rw [List.length_append, HL4.out]; have h : (zeros 224).length = 224 := List.length_replicate; rw [h]; decide
      rintro e w6 ⟨v6, rfl, ho6, hk6⟩
      go_wp2
      go_ret
      refine ⟨_, rfl, ?_, HK5.out.and hk6⟩
      have := ho6.mono hs5
      rw [← HX.out] at this
      exact this
end Go.Proofs.YtonkeialdfofcaaGreatDoor
