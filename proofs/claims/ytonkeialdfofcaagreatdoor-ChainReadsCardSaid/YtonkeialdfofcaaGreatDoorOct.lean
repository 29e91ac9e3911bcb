/-
  slices.Clone at bytes, octet.Put, octet.Take: their contracts.
-/
import Derived.Test.YtonkeialdfofcaaGreatDoorBase2
namespace Go.Proofs.YtonkeialdfofcaaGreatDoor
open Go.RowKit Go

set_option maxHeartbeats 400000 in
theorem clone_b (v : Value) (bs : List UInt8) (w : World) (hb : BytesAt w v bs) (hl : bs.length ≤ 100000) :
    Calls Tryz.prog 82 #[v] w fun e w' => ∃ v', e = .returned v' ∧ OwnB w' w.heap.size v' bs ∧ Kp [] w w' := by
  have q : ∀ (w : World) (a : Option Addr) (n c n' c' : Nat), (binOp .eql 30 (.slice a n c) (.slice none n' c')).run Tryz.prog w = .ok (.bool a.isNone) w := fun w a n c n' c' => Lib.run_eql_slice_nil w _ _ a n c n' c' Tryz.underlying30
  obtain ⟨a, cap, rfl⟩ := hb.slice
  cases a with
  | none =>
    have : bs = [] := by
      rcases hb with ⟨_, h⟩ | ⟨b, off, cap, cs, fz, h, _⟩
      · exact h
      · simp at h
    subst this
    go_enter Tryz.func82, Tryz.ntmps82
    go_wp2
    go_ret
    exact ⟨_, rfl, OwnB.nil _ _, Kp.refl _ _⟩
  | some a =>
    have A := Lib.hid hb
    clear hb
    go_enter Tryz.func82, Tryz.ntmps82
    go_wp2_with (at_builtin; refine wpList_append_bytes rfl _ _ rfl w.heap.size _ _ [] bs rfl rfl ?c1 ?c2 ?c3 ?c4 ?_)
    case c1 => exact World.ownsRow_made w #[] 0 (Nat.le_refl _) (by decide) rfl
    case c2 => exact A.out.kp0 (Kp.alloc _ _)
    case c3 => simp; omega
    case c4 => simp
    intro v' w' ho hk
    go_wp2
    go_ret
    refine ⟨v', rfl, by simpa using ho, ?_⟩
    exact (Kp.alloc _ _).trans hk (by simp [Value.ownBlock])

/-- The lowest n bytes of v, the lowest first. -/
def putN : Nat → Nat → List UInt8
  | 0, _ => []
  | n + 1, v => UInt8.ofNat v :: putN n (v / 256)
theorem length_putN (n v : Nat) : (putN n v).length = n := by
  induction n generalizing v with
  | zero => rfl
  | succ n ih => simp [putN, ih]
theorem putN_snoc (n v : Nat) : putN (n + 1) v = putN n v ++ [UInt8.ofNat (v / 256 ^ n)] := by
  induction n generalizing v with
  | zero => simp [putN]
  | succ n ih =>
    rw [putN, ih, putN]
    simp [Nat.pow_succ, Nat.div_div_eq_div_mul, Nat.mul_comm]
theorem wrap_u8 (n : Nat) : IntKind.u8.wrap (n : Int) = ((UInt8.ofNat n).toNat : Int) := by
  simp only [IntKind.wrap_u8]
  simp
theorem u8_lit (w : World) (x : UInt8) (n : Int) (h : n = x.toNat) : BytesAt (w.alloc (.cells #[.int .u8 n] 5)) (.slice (some ⟨w.heap.size, 0, none⟩) 1 1) [x] := by
  subst h
  exact .inr ⟨w.heap.size, 0, 1, _, (0, 0), rfl, Nat.le_refl _, blk_alloc_new _ _, by simp, fun i hi => by
    have : i = 0 := by simpa using hi
    subst this; rfl⟩

set_option maxHeartbeats 400000 in
theorem put_b (vb : Value) (bs : List UInt8) (v n : Nat) (w : World) (hb : BytesAt w vb bs) (hl : bs.length ≤ 100000) (hv : v < 18446744073709551616) (hn : n ≤ 8) :
    Calls Tryz.prog 120 #[vb, .int .u64 v, .int .i64 n] w fun e w' => ∃ v', e = .returned v' ∧ OwnB w' w.heap.size v' (bs ++ putN n v) ∧ Kp [] w w' := by
  obtain ⟨i0, hi, hz0, hz1, hz2⟩ := info_parts info5
  obtain ⟨a, cap, rfl⟩ := hb.slice
  have A := Lib.hid hb
  clear hb
  go_enter Tryz.func120, Tryz.ntmps120
  go_wp2_with (at_make; refine wpList_make_own _ rfl _ _ 30 rfl w.heap.size 5 i0 (.int .u8 0) 1 Tryz.underlying30 hi hz0 hz1 _ _ _ (bs.length + n) rfl rfl ?c1 ?c2 ?c3 ?c4 ?_)
  case c1 => omega
  case c2 => rw [hz2]; omega
  case c3 => unfold maxLen; omega
  case c4 => omega
  intro w1 ho1 hg1
  have hk1 := Kp.of_grown hg1
  have ho1 : OwnB w1 w.heap.size _ [] := ho1
  go_wp2_with (at_builtin; refine wpList_append_bytes rfl _ _ rfl w.heap.size _ _ [] bs rfl rfl ho1 ?d2 ?d3 ?d4 ?_)
  case d2 => exact A.out.kp0 hk1
  case d3 => simp; omega
  case d4 => exact hk1.size
  intro v2 w2 ho2 hk2
  have hk : Kp [] w w2 := hk1.trans hk2 (by simp [Value.ownBlock])
  clear ho1 hg1 hk1 hk2
  go_wp2
  go_loopw [7, 1, 19] (fun o x i wr => ∃ k y : Nat, k ≤ n ∧ i = .int .i64 k ∧ OwnB wr w.heap.size o (bs ++ putN k v) ∧ x = .int .u64 (y : Int) ∧ y = v / 256 ^ k ∧ Kp [] w wr) (fun _ _ i _ => n - (intOf i).toNat)
  case atStart => exact ⟨0, v, by omega, rfl, by simpa [putN] using ho2, rfl, by simp, hk⟩
  case round =>
    obtain ⟨k, y, hkn, rfl, ho, rfl, hy, hkr⟩ := hrel
    clear ho2 hk
    have hlt : y < 18446744073709551616 := by rw [hy]; exact Nat.lt_of_le_of_lt (Nat.div_le_self _ _) hv
    have HY := Lib.hid hy
    clear hy
    by_cases hc : k < n
    · go_wp2_with (at_builtin; refine wpList_append_bytes rfl _ _ rfl w.heap.size _ _ (bs ++ putN k v) [UInt8.ofNat y] rfl rfl ?e1 ?e2 ?e3 ?e4 ?_)
      case e1 => exact ho.kp0 (Kp.alloc _ _)
      case e2 => exact u8_lit _ _ _ (by simp)
      case e3 => simp [length_putN]; omega
      case e4 => have := hkr.size; simp; omega
      intro v3 w3 ho3 hk3
      have hs3 : Kp [] w w3 := (hkr.trans (Kp.alloc _ _) (by simp)).trans hk3 (fun x hx => .inr (ho.own x hx))
      rw [HY.out, ← putN_snoc] at ho3
      go_wp2
      go_roundw
      case rel => exact ⟨k + 1, y / 256, by omega, by go_num, by simpa using ho3, by simp, by rw [HY.out, Nat.div_div_eq_div_mul, Nat.pow_succ], hs3⟩
      case measure => simp [intOf]; omega
    · have : k = n := by omega
      subst this
      go_wp2
      go_ret
      exact ⟨_, rfl, ho, hkr⟩
end Go.Proofs.YtonkeialdfofcaaGreatDoor
