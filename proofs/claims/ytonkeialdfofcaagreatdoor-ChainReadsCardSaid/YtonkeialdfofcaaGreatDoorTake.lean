/-
  octet.Take: its contract at two, four and eight bytes.
-/
import Derived.Test.YtonkeialdfofcaaGreatDoorOct
namespace Go.Proofs.YtonkeialdfofcaaGreatDoor
open Go.RowKit Go

/-- The number of some bytes, the lowest first. -/
def takeN : List UInt8 → Nat
  | [] => 0
  | x :: l => x.toNat + 256 * takeN l
theorem takeN_lt (l : List UInt8) : takeN l < 256 ^ l.length := by
  induction l with
  | nil => simp [takeN]
  | cons x l ih =>
    have := x.toNat_lt
    simp only [takeN, List.length_cons, Nat.pow_succ]
    omega
theorem takeN_putN (n v : Nat) (h : v < 256 ^ n) : takeN (putN n v) = v := by
  induction n generalizing v with
  | zero => simp [putN, takeN] at *; omega
  | succ n ih =>
    have : v / 256 < 256 ^ n := by rw [Nat.pow_succ] at h; omega
    simp only [putN, takeN, ih _ this]
    simp
    omega

theorem or_64 (i : Nat) (hi : i ≤ 64) (x y : Int) (h0 : 0 ≤ x) (h1 : x % 2 ^ i = 0) (h2 : x < 18446744073709551616) (h3 : 0 ≤ y) (h4 : y < 2 ^ i) : bits .or .u64 x y = x + y := by
  have hp : (2 : Int) ^ i ≤ 2 ^ 64 := by
    have : (2 : Nat) ^ i ≤ 2 ^ 64 := Nat.pow_le_pow_right (by decide) hi
    exact_mod_cast this
  exact bits_join .u64 64 (by decide) (fun n a b => IntWalk.u64_in n (by omega)) i x y h0 h1 (by omega) h3 h4 (by omega)

set_option maxHeartbeats 1000000 in
theorem take_2 (b off cap N : Nat) (at_ : Nat) (w : World) (l : List UInt8) (hl : l.length = 2)
    (hN : at_ + 2 ≤ N) (hcap : N ≤ cap) (hbig : N ≤ 1000000000) (hc : ∀ j (h : j < l.length), w.cell? ⟨b, off + at_ + j, none⟩ = some (.int .u8 (l[j].toNat : Int))) :
    Calls Tryz.prog 147 #[.slice (some ⟨b, off, none⟩) N cap, .int .i64 at_, .int .i64 2] w fun e w' => e = .returned (.tuple #[.int .u64 (takeN l : Nat), .int .i64 0]) ∧ w = w' := by
  match l, hl with
  | [x0, x1], _ =>
  have h0 := hc 0 (by simp)
  have h1 := hc 1 (by simp)
  simp only [List.getElem_cons_zero, List.getElem_cons_succ, Nat.add_zero] at h0 h1
  have HT : takeN [x0, x1] = takeN [x0, x1] := rfl
  conv at HT => rhs; simp only [takeN]
  have v0 : (x0.toNat : Int) < 256 := by have := x0.toNat_lt; omega
  have u0 : (0 : Int) ≤ (x0.toNat : Int) := by omega
  have v1 : (x1.toNat : Int) < 256 := by have := x1.toNat_lt; omega
  have u1 : (0 : Int) ≤ (x1.toNat : Int) := by omega
  generalize takeN [x0, x1] = R at *
  have HT2 : (R : Int) = (x0.toNat : Int) + 256 * ((x1.toNat : Int) ) := by rw [HT]; simp
  clear HT
  generalize (x0.toNat : Int) = y0 at *
  generalize (x1.toNat : Int) = y1 at *
  clear hc
  have o1 : bits .or .u64 (0) (y1 * 256) = y1 * 256 := by rw [or_64 16 (by decide) _ _ (by omega) (by omega) (by omega) (by omega) (by omega)]; omega
  have o0 : bits .or .u64 (y1 * 256) (y0) = y1 * 256 + y0 := by rw [or_64 8 (by decide) _ _ (by omega) (by omega) (by omega) (by omega) (by omega)]
  have HX := Lib.hid HT2
  clear HT2
  go_enter Tryz.func147, Tryz.ntmps147
  go_wp2
  go_ret2
  exact ⟨by rw [HX.out]; simp; omega, rfl⟩

set_option maxHeartbeats 1000000 in
theorem take_4 (b off cap N : Nat) (at_ : Nat) (w : World) (l : List UInt8) (hl : l.length = 4)
    (hN : at_ + 4 ≤ N) (hcap : N ≤ cap) (hbig : N ≤ 1000000000) (hc : ∀ j (h : j < l.length), w.cell? ⟨b, off + at_ + j, none⟩ = some (.int .u8 (l[j].toNat : Int))) :
    Calls Tryz.prog 147 #[.slice (some ⟨b, off, none⟩) N cap, .int .i64 at_, .int .i64 4] w fun e w' => e = .returned (.tuple #[.int .u64 (takeN l : Nat), .int .i64 0]) ∧ w = w' := by
  match l, hl with
  | [x0, x1, x2, x3], _ =>
  have h0 := hc 0 (by simp)
  have h1 := hc 1 (by simp)
  have h2 := hc 2 (by simp)
  have h3 := hc 3 (by simp)
  simp only [List.getElem_cons_zero, List.getElem_cons_succ, Nat.add_zero] at h0 h1 h2 h3
  have HT : takeN [x0, x1, x2, x3] = takeN [x0, x1, x2, x3] := rfl
  conv at HT => rhs; simp only [takeN]
  have v0 : (x0.toNat : Int) < 256 := by have := x0.toNat_lt; omega
  have u0 : (0 : Int) ≤ (x0.toNat : Int) := by omega
  have v1 : (x1.toNat : Int) < 256 := by have := x1.toNat_lt; omega
  have u1 : (0 : Int) ≤ (x1.toNat : Int) := by omega
  have v2 : (x2.toNat : Int) < 256 := by have := x2.toNat_lt; omega
  have u2 : (0 : Int) ≤ (x2.toNat : Int) := by omega
  have v3 : (x3.toNat : Int) < 256 := by have := x3.toNat_lt; omega
  have u3 : (0 : Int) ≤ (x3.toNat : Int) := by omega
  generalize takeN [x0, x1, x2, x3] = R at *
  have HT2 : (R : Int) = (x0.toNat : Int) + 256 * ((x1.toNat : Int) + 256 * ((x2.toNat : Int) + 256 * ((x3.toNat : Int) ))) := by rw [HT]; simp
  clear HT
  generalize (x0.toNat : Int) = y0 at *
  generalize (x1.toNat : Int) = y1 at *
  generalize (x2.toNat : Int) = y2 at *
  generalize (x3.toNat : Int) = y3 at *
  clear hc
  have o3 : bits .or .u64 (0) (y3 * 16777216) = y3 * 16777216 := by rw [or_64 32 (by decide) _ _ (by omega) (by omega) (by omega) (by omega) (by omega)]; omega
  have o2 : bits .or .u64 (y3 * 16777216) (y2 * 65536) = y3 * 16777216 + y2 * 65536 := by rw [or_64 24 (by decide) _ _ (by omega) (by omega) (by omega) (by omega) (by omega)]
  have o1 : bits .or .u64 (y3 * 16777216 + y2 * 65536) (y1 * 256) = y3 * 16777216 + y2 * 65536 + y1 * 256 := by rw [or_64 16 (by decide) _ _ (by omega) (by omega) (by omega) (by omega) (by omega)]
  have o0 : bits .or .u64 (y3 * 16777216 + y2 * 65536 + y1 * 256) (y0) = y3 * 16777216 + y2 * 65536 + y1 * 256 + y0 := by rw [or_64 8 (by decide) _ _ (by omega) (by omega) (by omega) (by omega) (by omega)]
  have HX := Lib.hid HT2
  clear HT2
  go_enter Tryz.func147, Tryz.ntmps147
  go_wp2
  go_ret2
  exact ⟨by rw [HX.out]; simp; omega, rfl⟩

set_option maxHeartbeats 1000000 in
theorem take_8 (b off cap N : Nat) (at_ : Nat) (w : World) (l : List UInt8) (hl : l.length = 8)
    (hN : at_ + 8 ≤ N) (hcap : N ≤ cap) (hbig : N ≤ 1000000000) (hc : ∀ j (h : j < l.length), w.cell? ⟨b, off + at_ + j, none⟩ = some (.int .u8 (l[j].toNat : Int))) :
    Calls Tryz.prog 147 #[.slice (some ⟨b, off, none⟩) N cap, .int .i64 at_, .int .i64 8] w fun e w' => e = .returned (.tuple #[.int .u64 (takeN l : Nat), .int .i64 0]) ∧ w = w' := by
  match l, hl with
  | [x0, x1, x2, x3, x4, x5, x6, x7], _ =>
  have h0 := hc 0 (by simp)
  have h1 := hc 1 (by simp)
  have h2 := hc 2 (by simp)
  have h3 := hc 3 (by simp)
  have h4 := hc 4 (by simp)
  have h5 := hc 5 (by simp)
  have h6 := hc 6 (by simp)
  have h7 := hc 7 (by simp)
  simp only [List.getElem_cons_zero, List.getElem_cons_succ, Nat.add_zero] at h0 h1 h2 h3 h4 h5 h6 h7
  have HT : takeN [x0, x1, x2, x3, x4, x5, x6, x7] = takeN [x0, x1, x2, x3, x4, x5, x6, x7] := rfl
  conv at HT => rhs; simp only [takeN]
  have v0 : (x0.toNat : Int) < 256 := by have := x0.toNat_lt; omega
  have u0 : (0 : Int) ≤ (x0.toNat : Int) := by omega
  have v1 : (x1.toNat : Int) < 256 := by have := x1.toNat_lt; omega
  have u1 : (0 : Int) ≤ (x1.toNat : Int) := by omega
  have v2 : (x2.toNat : Int) < 256 := by have := x2.toNat_lt; omega
  have u2 : (0 : Int) ≤ (x2.toNat : Int) := by omega
  have v3 : (x3.toNat : Int) < 256 := by have := x3.toNat_lt; omega
  have u3 : (0 : Int) ≤ (x3.toNat : Int) := by omega
  have v4 : (x4.toNat : Int) < 256 := by have := x4.toNat_lt; omega
  have u4 : (0 : Int) ≤ (x4.toNat : Int) := by omega
  have v5 : (x5.toNat : Int) < 256 := by have := x5.toNat_lt; omega
  have u5 : (0 : Int) ≤ (x5.toNat : Int) := by omega
  have v6 : (x6.toNat : Int) < 256 := by have := x6.toNat_lt; omega
  have u6 : (0 : Int) ≤ (x6.toNat : Int) := by omega
  have v7 : (x7.toNat : Int) < 256 := by have := x7.toNat_lt; omega
  have u7 : (0 : Int) ≤ (x7.toNat : Int) := by omega
  generalize takeN [x0, x1, x2, x3, x4, x5, x6, x7] = R at *
  have HT2 : (R : Int) = (x0.toNat : Int) + 256 * ((x1.toNat : Int) + 256 * ((x2.toNat : Int) + 256 * ((x3.toNat : Int) + 256 * ((x4.toNat : Int) + 256 * ((x5.toNat : Int) + 256 * ((x6.toNat : Int) + 256 * ((x7.toNat : Int) ))))))) := by rw [HT]; simp
  clear HT
  generalize (x0.toNat : Int) = y0 at *
  generalize (x1.toNat : Int) = y1 at *
  generalize (x2.toNat : Int) = y2 at *
  generalize (x3.toNat : Int) = y3 at *
  generalize (x4.toNat : Int) = y4 at *
  generalize (x5.toNat : Int) = y5 at *
  generalize (x6.toNat : Int) = y6 at *
  generalize (x7.toNat : Int) = y7 at *
  clear hc
  have o6 : bits .or .u64 (y7 * 72057594037927936) (y6 * 281474976710656) = y7 * 72057594037927936 + y6 * 281474976710656 := by rw [or_64 56 (by decide) _ _ (by omega) (by omega) (by omega) (by omega) (by omega)]
  have o5 : bits .or .u64 (y7 * 72057594037927936 + y6 * 281474976710656) (y5 * 1099511627776) = y7 * 72057594037927936 + y6 * 281474976710656 + y5 * 1099511627776 := by rw [or_64 48 (by decide) _ _ (by omega) (by omega) (by omega) (by omega) (by omega)]
  have o4 : bits .or .u64 (y7 * 72057594037927936 + y6 * 281474976710656 + y5 * 1099511627776) (y4 * 4294967296) = y7 * 72057594037927936 + y6 * 281474976710656 + y5 * 1099511627776 + y4 * 4294967296 := by rw [or_64 40 (by decide) _ _ (by omega) (by omega) (by omega) (by omega) (by omega)]
  have o3 : bits .or .u64 (y7 * 72057594037927936 + y6 * 281474976710656 + y5 * 1099511627776 + y4 * 4294967296) (y3 * 16777216) = y7 * 72057594037927936 + y6 * 281474976710656 + y5 * 1099511627776 + y4 * 4294967296 + y3 * 16777216 := by rw [or_64 32 (by decide) _ _ (by omega) (by omega) (by omega) (by omega) (by omega)]
  have o2 : bits .or .u64 (y7 * 72057594037927936 + y6 * 281474976710656 + y5 * 1099511627776 + y4 * 4294967296 + y3 * 16777216) (y2 * 65536) = y7 * 72057594037927936 + y6 * 281474976710656 + y5 * 1099511627776 + y4 * 4294967296 + y3 * 16777216 + y2 * 65536 := by rw [or_64 24 (by decide) _ _ (by omega) (by omega) (by omega) (by omega) (by omega)]
  have o1 : bits .or .u64 (y7 * 72057594037927936 + y6 * 281474976710656 + y5 * 1099511627776 + y4 * 4294967296 + y3 * 16777216 + y2 * 65536) (y1 * 256) = y7 * 72057594037927936 + y6 * 281474976710656 + y5 * 1099511627776 + y4 * 4294967296 + y3 * 16777216 + y2 * 65536 + y1 * 256 := by rw [or_64 16 (by decide) _ _ (by omega) (by omega) (by omega) (by omega) (by omega)]
  have o0 : bits .or .u64 (y7 * 72057594037927936 + y6 * 281474976710656 + y5 * 1099511627776 + y4 * 4294967296 + y3 * 16777216 + y2 * 65536 + y1 * 256) (y0) = y7 * 72057594037927936 + y6 * 281474976710656 + y5 * 1099511627776 + y4 * 4294967296 + y3 * 16777216 + y2 * 65536 + y1 * 256 + y0 := by rw [or_64 8 (by decide) _ _ (by omega) (by omega) (by omega) (by omega) (by omega)]
  have HX := Lib.hid HT2
  clear HT2
  go_enter Tryz.func147, Tryz.ntmps147
  go_wp2
  go_ret2
  exact ⟨by rw [HX.out]; simp; omega, rfl⟩

/-- The number of n bytes from at on. -/
def numAt (bs : List UInt8) (at_ n : Nat) : Nat := takeN ((bs.drop at_).take n)

theorem take_bytes (n at_ : Nat) (v : Value) (bs : List UInt8) (w : World) (hb : BytesAt w v bs) (hn : n = 2 ∨ n = 4 ∨ n = 8) (h : at_ + n ≤ bs.length) (hl : bs.length ≤ 1000000) :
    Calls Tryz.prog 147 #[v, .int .i64 at_, .int .i64 n] w fun e w' => e = .returned (.tuple #[.int .u64 (numAt bs at_ n : Nat), .int .i64 0]) ∧ w = w' := by
  rcases hb with ⟨_, rfl⟩ | hb'
  · simp at h; omega
  have hb : BytesAt w v bs := .inr hb'
  obtain ⟨b, off, cap, cs, fz, rfl, hcap, _⟩ := hb'
  have hlen : ((bs.drop at_).take n).length = n := by simp; omega
  have hc : ∀ j (h : j < ((bs.drop at_).take n).length), w.cell? ⟨b, off + at_ + j, none⟩ = some (.int .u8 (((bs.drop at_).take n)[j].toNat : Int)) := by
    intro j hj
    rw [hlen] at hj
    have hj2 : at_ + j < bs.length := by omega
    have := hb.cellAt (at_ + j) (bv bs[at_ + j]) (by simp [u8s, hj2])
    rw [addr_add, ← Nat.add_assoc] at this
    rw [this]
    simp [bv]
  rcases hn with rfl | rfl | rfl
  · exact take_2 b off cap bs.length at_ w _ hlen h hcap (by omega) hc
  · exact take_4 b off cap bs.length at_ w _ hlen h hcap (by omega) hc
  · exact take_8 b off cap bs.length at_ w _ hlen h hcap (by omega) hc
end Go.Proofs.YtonkeialdfofcaaGreatDoor
