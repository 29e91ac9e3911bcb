/-
  chain.Put where there is room.
-/
import Derived.Test.YtonkeialdfofcaaGreatDoorPuts2
namespace Go.Proofs.YtonkeialdfofcaaGreatDoor
open Go.RowKit Go

section
variable {w : World} {t n : Nat} {H : Nat → Bs} {F : List Nat}
set_option maxHeartbeats 1000000 in
theorem chain_Put (v : Value) (b : Bs) (i : Nat) (L : List Nat) (B' : Bs) (h : TxSys w t n H F) (hn : 1 < n) (hb : BytesAt w v b) (hbl : b.length ≤ 9680) (htk : tkB n (longN b.length) (H 1) = some (L, B')) (hi : L[0]? = some i) :
    Calls Tryz.prog 60 #[.pointer (some ⟨t, 0, none⟩), v] w fun e w' => e = .returned (.tuple #[.int .u32 i, .int .i64 0]) ∧ TxSys w' t n (laid L b (fun j => if j = 1 then B' else H j) (longN b.length)) F ∧ Kp F w w' := by
  have HP := Lib.hid (chain_puts v b L B' h hn hb hbl htk)
  have HI := Lib.hid hi
  have hin := (tkB_lt htk i (List.mem_of_getElem? hi)).2
  have cv : IntKind.u32.wrap (i : Int) = i := by
    have := h.hi
    exact IntWalk.u32_in _ (by omega)
  obtain ⟨a, c, rfl⟩ := hb.slice
  generalize b.length = m at *
  clear h hb htk hi
  go_enter Tryz.func60, Tryz.ntmps60
  go_wp2_with (go_at_call 114; refine HP.out.mono ?_; rintro e w1 ⟨i', rfl, hi', ht, hk⟩; obtain rfl : i' = i := (by rw [HI.out] at hi'; exact (Option.some.inj hi').symm))
  go_ret2
  exact ⟨rfl, ht, hk⟩
end
end Go.Proofs.YtonkeialdfofcaaGreatDoor
