/-
  space.turns, space.takes, space.Take where there is room.
-/
import Derived.Test.YtonkeialdfofcaaGreatDoorSpace2
namespace Go.Proofs.YtonkeialdfofcaaGreatDoor
open Go.RowKit Go

section
variable {w : World} {t n : Nat} {H : Nat → Bs} {F : List Nat}

theorem space_bad0 (w : World) : Calls Tryz.prog 162 #[.int .i64 0] w fun e w' => e = .returned .nilIface ∧ w = w' := by
  go_enter Tryz.func162, Tryz.ntmps162
  go_wp2
  go_ret
  exact ⟨rfl, rfl⟩

theorem turned {w : World} {b0 off cap : Nat} {cs : Array Value} {fz : Nat × Nat} {b : Bs} {i : Nat} {x : UInt8} (hl : b.length = 248) (h2 : 248 ≤ cap) (h3 : w.heap[b0]? = some (.cells cs 5 fz)) (h4 : off + cap ≤ cs.size) (h5 : ∀ i, i < b.length → cs[off + i]? = (u8s b)[i]?) (hx : b[i / 8]? = some x) (_hi : i < 1984) :
    BytesAt (w.setCell ⟨b0, off + i / 8, none⟩ (.int .u8 ((x.toNat ^^^ 2 ^ (i % 8) : Nat) : Int))) (.slice (some ⟨b0, off, none⟩) 248 cap) (turnB b i) := by
  have e : (turnB b i).length = 248 := by rw [length_turnB, hl]
  refine .inr ⟨b0, off, cap, _, fz, by rw [e], by rw [e]; omega, blk_setCell h3 _ _, by simpa using h4, fun j hj => ?_⟩
  have hg : b.getD (i / 8) 0 = x := by simp [List.getD, hx]
  have hm : (x.toNat ^^^ 2 ^ (i % 8)) < 256 := Nat.xor_lt_two_pow (n := 8) (by have := x.toNat_lt; omega) (Nat.pow_lt_pow_right (by decide) (by omega))
  rw [e] at hj
  unfold turnB
  rw [hg, u8s_get]
  by_cases hq : j = i / 8
  · subst hq
    have e1 : (UInt8.ofNat (x.toNat ^^^ 2 ^ (i % 8))).toNat = x.toNat ^^^ 2 ^ (i % 8) := by rw [UInt8.toNat_ofNat']; exact Nat.mod_eq_of_lt hm
    rw [List.getElem?_set_self (by omega)]
    have : off + i / 8 < cs.size := by omega
    rw [Array.getElem?_setIfInBounds_self_of_lt this]
    show _ = some (bv _)
    rw [bv, e1]
  · rw [List.getElem?_set_ne (Ne.symm hq), Array.getElem?_setIfInBounds_ne (by omega), h5 j (by omega), u8s_get]

set_option maxHeartbeats 1000000 in
set_option maxRecDepth 20000 in
theorem space_turns (i m : Nat) (v : Value) (b : Bs) (h : OwnS w m v b) (hT : TxOver w m t n H F) (hl : b.length = 248) (hi : 2 ≤ i) (hi2 : i < 1984) (hn : 1 < n) :
    Calls Tryz.prog 150 #[.pointer (some ⟨t, 0, none⟩), v, .int .i64 i] w fun e w' => e = .returned .nilIface ∧ TxSys w' t n (fun j => if j = 1 then turnB b i else H j) F ∧ ∃ S, (∀ x ∈ S, x ∈ F ∨ m ≤ x) ∧ Kp S w w' := by
  have HT := Lib.hid hT
  have HN := Lib.hid hn
  rcases h with ⟨_, rfl⟩ | ⟨b0, off, cap, cs, rfl, h2, hm0, h3, h4, h5⟩
  · simp at hl
  have hlt : i / 8 < b.length := by omega
  obtain ⟨x, hx⟩ : ∃ x, b[i / 8]? = some x := ⟨_, List.getElem?_eq_getElem hlt⟩
  have c0 := cell_of h3 (off + i / 8) (v := .int .u8 (x.toNat : Int)) (by rw [h5 _ (by omega), u8s_get, hx]; rfl)
  have f0 := free_of h3 (off + i / 8)
  have HTB := Lib.hid (turned hl (by omega) h3 h4 h5 hx hi2)
  have HTL := Lib.hid (show (turnB b i).length = 248 by rw [length_turnB, hl])
  obtain ⟨y, hy⟩ : ∃ y, y = x.toNat ^^^ 2 ^ (i % 8) := ⟨_, rfl⟩
  rw [← hy] at HTB
  have hxor := turn_bit x.toNat (by have := x.toNat_lt; omega) (i % 8) (by omega)
  rw [← hy] at hxor
  have HM := Lib.hid hm0
  rw [hl]
  clear hT h2 h3 h4 h5 hx hlt hm0 hy
  have hq0 : (0 : Int) ≤ (i : Int) / 8 := by omega
  have hq : (i : Int) / 8 < 248 := by omega
  have hr0 : (0 : Int) ≤ (i : Int) % 8 := by omega
  have hr : (i : Int) % 8 < 8 := by omega
  have hrn : i % 8 < 8 := by omega
  have hqn : ((i : Int) / 8).toNat = i / 8 := by omega
  go_enter Tryz.func150, Tryz.ntmps150
  go_wp2_with (first
    | (go_at_call 45; go_loud (refine (ts_write 1 _ _ (HT.out [b0] _ (by simpa using HM.out) (Kp.setCell w ⟨b0, off + i / 8, none⟩ (.int .u8 (y : Int)))) HN.out HTB.out HTL.out).mono ?_); rintro e w1 ⟨rfl, ht, hk⟩)
    | (go_at_call 162; refine (space_bad0 _).mono ?_; rintro e w2 ⟨rfl, rfl⟩))
  go_ret
  refine ⟨rfl, ht, b0 :: F, ?_, ?_⟩
  · intro y hy
    rcases List.mem_cons.1 hy with rfl | hy
    · exact .inr HM.out
    · exact .inl hy
  · exact ((Kp.setCell _ _ _).mono (by simp)).and (hk.mono (fun z hz => List.mem_cons_of_mem _ hz))

theorem space_homes (h : TxSys w t n H F) : Calls Tryz.prog 116 #[.pointer (some ⟨t, 0, none⟩)] w fun e w' => e = .returned (.int .i64 (min n 1984 : Nat)) ∧ ∃ k, w' = w.drewN k := by
  have HS := Lib.hid h
  have e : min n 1984 = n := by have := h.hi; omega
  rw [e]
  have hmin : min (n : Int) 1984 = n := by have := h.hi; omega
  clear h
  go_enter Tryz.func116, Tryz.ntmps116
  go_wp2_with (go_at_call 53; refine (ts_homes HS.out).mono ?_; rintro e w' ⟨rfl, k, rfl⟩)
  go_ret
  exact ⟨rfl, _, rfl⟩

theorem TxOver.sys {m : Nat} (h : TxOver w m t n H F) {w' : World} (k : Kp [] w w') : TxSys w' t n H F := h [] w' (by simp) k
theorem TxOver.kp0 {m : Nat} (h : TxOver w m t n H F) {w' : World} (k : Kp [] w w') : TxOver w' m t n H F := fun S w'' hS k2 => h S w'' hS ((k.mono (by simp)).and k2)

/-- The lowest home that is free. -/
def freeB (b : Bs) (n : Nat) : Option Nat := (List.range n).find? (fun i => !hasB b i)

theorem freeB_some {b : Bs} {n i : Nat} (h : freeB b n = some i) : i < n ∧ hasB b i = false ∧ ∀ j, j < i → hasB b j = true := by
  unfold freeB at h
  have h1 := List.find?_some h
  have h2 := List.mem_of_find?_eq_some h
  rw [List.find?_range_eq_some] at h
  obtain ⟨h3, h4, h5⟩ := h
  exact ⟨by simpa using h2, by simpa using h1, fun j hj => by simpa using h5 j hj⟩
theorem hasB_lo {b : Bs} {i : Nat} (h : hasB b i = false) : 2 ≤ i ∧ i < 1984 := by
  unfold hasB at h; simp at h; omega

set_option maxHeartbeats 1000000 in
theorem space_takes (i : Nat) (h : TxSys w t n H F) (hn : 1 < n) (hf : freeB (H 1) n = some i) :
    Calls Tryz.prog 161 #[.pointer (some ⟨t, 0, none⟩)] w fun e w' => e = .returned (.tuple #[.int .i64 i, .nilIface]) ∧ TxSys w' t n (fun j => if j = 1 then turnB (H 1) i else H j) F ∧ Kp F w w' := by
  have HS := Lib.hid h
  obtain ⟨f1, f2, f3⟩ := freeB_some hf
  obtain ⟨f4, f5⟩ := hasB_lo f2
  have HL := Lib.hid (h.len 1 hn)
  have HF3 := Lib.hid f3
  have HF2 := Lib.hid f2
  have hmin : min n 1984 = n := by have := h.hi; omega
  clear h hf f3 f2
  go_enter Tryz.func161, Tryz.ntmps161
  go_wp2_with (go_at_call 47; refine (ts_read2 1 HS.out hn).mono ?_; rintro e w1 ⟨v1, rfl, ho, ht, hk⟩; obtain ⟨a1, n1, cp1, rfl⟩ := ho.bytes.shape; have HO := Lib.hid ho; have HT := Lib.hid ht; have HK := Lib.hid hk; clear ho ht hk)
  go_loopw [6] (fun x wr => ∃ k : Nat, x = .int .i64 k ∧ 2 ≤ k ∧ k ≤ i ∧ Kp [] w1 wr) (fun x _ => i - (intOf x).toNat)
  case atStart => exact ⟨2, rfl, by omega, by omega, Kp.refl _ _⟩
  case round =>
    obtain ⟨k, rfl, k1, k2, hkr⟩ := hrel
    by_cases hki : k = i
    · subst hki
      have HKR := Lib.hid hkr
      clear hkr
      go_wp2_with (first
        | (go_at_call 116; refine (space_homes (HT.out.sys HKR.out)).mono ?_; rintro e w2 ⟨rfl, q, rfl⟩; rw [hmin])
        | (go_at_call 115; refine (space_has _ _ k ((HO.out.bytes.kp0 HKR.out).kp0 (Kp.drewN _ _)) HL.out).mono ?_; rintro e w2 ⟨rfl, rfl⟩; rw [HF2.out])
        | (go_at_call 150; refine (space_turns k _ _ _ ((HO.out.kp0 HKR.out).kp0 (Kp.drewN _ _)) ((HT.out.kp0 HKR.out).kp0 (Kp.drewN _ _)) HL.out k1 f5 hn).mono ?_; rintro e w3 ⟨rfl, ht3, S, hS, hk3⟩))
      go_ret2
      refine ⟨rfl, ht3, ((HK.out.and (HKR.out.mono (by simp))).and ((Kp.drewN _ _).mono (by simp))).trans hk3 hS⟩
    · have hlt : k < i := by omega
      have HFK := Lib.hid (HF3.out k hlt)
      have HKR := Lib.hid hkr
      clear hkr
      go_wp2_with (first
        | (go_at_call 116; refine (space_homes (HT.out.sys HKR.out)).mono ?_; rintro e w2 ⟨rfl, q, rfl⟩; rw [hmin])
        | (go_at_call 115; refine (space_has _ _ k ((HO.out.bytes.kp0 HKR.out).kp0 (Kp.drewN _ _)) HL.out).mono ?_; rintro e w2 ⟨rfl, rfl⟩; rw [HFK.out]))
      · refine ⟨⟨k + 1, by simp, by omega, by omega, HKR.out.and (Kp.drewN _ _)⟩, ?_⟩
        simp only [intOf]
        omega

theorem space_Take (i : Nat) (h : TxSys w t n H F) (hn : 1 < n) (hf : freeB (H 1) n = some i) :
    Calls Tryz.prog 148 #[.pointer (some ⟨t, 0, none⟩)] w fun e w' => e = .returned (.tuple #[.int .i64 i, .int .i64 0]) ∧ TxSys w' t n (fun j => if j = 1 then turnB (H 1) i else H j) F ∧ Kp F w w' := by
  have HS := Lib.hid h
  have HF := Lib.hid hf
  clear h hf
  go_enter Tryz.func148, Tryz.ntmps148
  go_wp2_with (go_at_call 161; refine (space_takes i HS.out hn HF.out).mono ?_; rintro e w1 ⟨rfl, ht, hk⟩)
  go_ret2
  exact ⟨rfl, ht, hk⟩
end
end Go.Proofs.YtonkeialdfofcaaGreatDoor
