/-
  A home's bit: space.has, space.turns.
-/
import Derived.Test.YtonkeialdfofcaaGreatDoorSpace
namespace Go.Proofs.YtonkeialdfofcaaGreatDoor
open Go.RowKit Go

/-- Is home i taken, by the bits? -/
def hasB (b : Bs) (i : Nat) : Bool := i < 2 || 1984 ≤ i || (b.getD (i / 8) 0).toNat.testBit (i % 8)

set_option maxRecDepth 20000 in
theorem has_bit : ∀ x, x < 256 → ∀ r, r < 8 → (bits .and .u8 ((x : Nat) / 2 ^ r) 1 == 1) = x.testBit r := by decide +kernel
set_option maxRecDepth 20000 in
theorem turn_bit : ∀ x, x < 256 → ∀ r, r < 8 → bits .xor .u8 (x : Nat) (2 ^ r % 256) = ((x ^^^ (2 ^ r)) : Nat) := by decide +kernel

section
variable {w : World} {t n : Nat} {H : Nat → Bs} {F : List Nat}

set_option maxHeartbeats 1000000 in
set_option maxRecDepth 20000 in
theorem space_has (v : Value) (b : Bs) (i : Nat) (h : BytesAt w v b) (hl : b.length = 248) :
    Calls Tryz.prog 115 #[v, .int .i64 i] w fun e w' => e = .returned (.bool (hasB b i)) ∧ w = w' := by
  have hB := Lib.hid h
  by_cases c1 : i < 2
  · have e : hasB b i = true := by simp [hasB, c1]
    rw [e]
    obtain ⟨a, m, cp, rfl⟩ := h.shape
    have d1 : (i : Int) < 2 := by omega
    clear h hl e
    go_enter Tryz.func115, Tryz.ntmps115
    go_wp2
    go_ret
    exact ⟨rfl, rfl⟩
  · have d1 : ¬ (i : Int) < 2 := by omega
    by_cases c2 : 1984 ≤ i
    · have e : hasB b i = true := by simp [hasB, c2]
      rw [e]
      obtain ⟨a, m, cp, rfl⟩ := h.shape
      have d2 : ¬ (i : Int) < 1984 := by omega
      clear h hl e
      go_enter Tryz.func115, Tryz.ntmps115
      go_wp2
      any_goals (exfalso; omega)
      go_ret
      exact ⟨rfl, rfl⟩
    · have d2 : (i : Int) < 1984 := by omega
      rcases h with ⟨_, rfl⟩ | ⟨b0, off, cap, cs, fz, rfl, h2, h3, h4, h5⟩
      · simp at hl
      rw [hl]
      have HL := Lib.hid hl
      have H5 := Lib.hid h5
      obtain ⟨x, hx⟩ : ∃ x, b[i / 8]? = some x := ⟨_, List.getElem?_eq_getElem (by omega)⟩
      have c0 := cell_of h3 (off + i / 8) (v := .int .u8 (x.toNat : Int)) (by rw [h5 _ (by omega), u8s_get, hx]; rfl)
      have HX := Lib.hid hx
      have hq0 : (0 : Int) ≤ (i : Int) / 8 := by omega
      have hq : (i : Int) / 8 < 248 := by omega
      have hr0 : (0 : Int) ≤ (i : Int) % 8 := by omega
      have hr : (i : Int) % 8 < 8 := by omega
      have hrn : i % 8 < 8 := by omega
      have hqn : ((i : Int) / 8).toNat = i / 8 := by omega
      clear h5 hx hl
      go_enter Tryz.func115, Tryz.ntmps115
      go_wp2
      go_ret
      refine ⟨?_, rfl⟩
      have hb := has_bit x.toNat (by have := x.toNat_lt; omega) (i % 8) hrn
      have hg : b.getD (i / 8) 0 = x := by simp [List.getD, HX.out]
      have e : hasB b i = x.toNat.testBit (i % 8) := by unfold hasB; rw [hg]; simp [c1, c2]
      rw [e, hb]
      rfl

/-- A home's bit is turned. -/
def turnB (b : Bs) (i : Nat) : Bs := b.set (i / 8) (UInt8.ofNat ((b.getD (i / 8) 0).toNat ^^^ 2 ^ (i % 8)))
theorem length_turnB (b : Bs) (i : Nat) : (turnB b i).length = b.length := by simp [turnB]
theorem has_turn (b : Bs) (i j : Nat) (hl : b.length = 248) (hi : 2 ≤ i) (hi2 : i < 1984) : hasB (turnB b i) j = if j = i then !hasB b i else hasB b j := by
  have hil : i / 8 < b.length := by omega
  have hg : b.getD (i / 8) 0 = b[i / 8] := by simp [List.getD, hil]
  have hm : ((b[i / 8]).toNat ^^^ 2 ^ (i % 8)) < 256 := Nat.xor_lt_two_pow (n := 8) (by have := (b[i / 8]).toNat_lt; omega) (Nat.pow_lt_pow_right (by decide) (by omega))
  have e1 : (turnB b i).getD (i / 8) 0 = UInt8.ofNat ((b[i / 8]).toNat ^^^ 2 ^ (i % 8)) := by
    unfold turnB
    rw [hg]
    simp [List.getD, hil]
  have e2 : ((turnB b i).getD (i / 8) 0).toNat = (b[i / 8]).toNat ^^^ 2 ^ (i % 8) := by
    rw [e1, UInt8.toNat_ofNat']; exact Nat.mod_eq_of_lt hm
  by_cases hj : j = i
  · subst hj
    rw [if_pos rfl]
    unfold hasB
    rw [e2, hg]
    have c1 : ¬ j < 2 := by omega
    have c2 : ¬ 1984 ≤ j := by omega
    simp [Nat.testBit_xor, Nat.testBit_two_pow_self, c1, c2]
  · rw [if_neg hj]
    unfold hasB
    by_cases hq : j / 8 = i / 8
    · rw [hq, e2, hg]
      have hne : i % 8 ≠ j % 8 := by omega
      simp [Nat.testBit_xor, hne]
    · have : (turnB b i).getD (j / 8) 0 = b.getD (j / 8) 0 := by
        unfold turnB
        simp [List.getD, List.getElem?_set_ne (Ne.symm hq)]
      rw [this]

/-- The transaction stands, whatever blocks from m on do. -/
def TxOver (w : World) (m t n : Nat) (H : Nat → Bs) (F : List Nat) : Prop := ∀ S w', (∀ x ∈ S, m ≤ x) → Kp S w w' → TxSys w' t n H F

theorem IsLg.join {w0 w1 w2 : World} {l p bm : Nat} {L : Lg} {S : List Nat} (h0 : IsLg w0 l p bm L) (h1 : IsLg w1 l p bm L) (k0 : Kp [l] w0 w2) (k1 : Kp S w1 w2) (hS : l ∉ S) : IsLg w2 l p bm L := by
  obtain ⟨al0, h0⟩ := h0
  obtain ⟨al1, h1⟩ := h1
  exact ⟨al0, k1.at h1.own hS, h0.mp.kp k0 (by simpa using h0.ne.symm), h0.opts.kp k0 h0.noB1, h0.slt, h0.tlt, h0.rhi, h0.phi⟩

theorem ts_read2 (i : Nat) (h : TxSys w t n H F) (hi : i < n) :
    Calls Tryz.prog 47 #[.pointer (some ⟨t, 0, none⟩), .int .i64 i] w fun e w' => ∃ v, e = .returned (.tuple #[v, .int .i64 0]) ∧ OwnS w' w.heap.size v (H i) ∧ TxOver w' w.heap.size t n H F ∧ Kp F w w' := by
  obtain ⟨l, bmt, al, T, f, p, bl, bm, bm', D, L, rfl, h2, h3, h4, h5, h6, h7⟩ := h
  refine (tx_read i h2 h3 hi).mono fun e w' hp => ?_
  obtain ⟨v, he, ho, ht, hl, hk⟩ := hp
  refine ⟨v, he, h7 i hi ▸ ho, fun S w'' hS k => ?_, hk.mono (by simp)⟩
  obtain ⟨cs, hown⟩ := h3.own
  have hlS : l ∉ S := fun c => by have := hS l c; have := lt_of_blk hown; omega
  have htS : t ∉ S := fun c => by have := hS t c; have := lt_of_blk h2.own; omega
  obtain ⟨n1, n2, n3⟩ := tx_lg h2 h3
  have k0 : Kp [l] w w'' := hk.trans k (fun x hx => .inr (hS x hx))
  have hlg := h3.lg.join hl.lg k0 k hlS
  exact ⟨l, bmt, al, T, f, p, bl, bm, bm', D, L, rfl, h2.kp k0 h3.noB1 (by simpa using n1) (by simpa using n2), h3.kpl k0 hlg, h4, h5, h6, h7⟩

end
end Go.Proofs.YtonkeialdfofcaaGreatDoor
