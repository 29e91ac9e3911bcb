/-
  chain.Get of a chain that can be read; scriptorylaw22.begun.
-/
import Derived.Test.YtonkeialdfofcaaGreatDoorGets
import Derived.WalkLawsBesides
import Derived.Lib.SlBytesConst
namespace Go.Proofs.YtonkeialdfofcaaGreatDoor
open Go.RowKit Go

section
variable {w : World} {t n : Nat} {H : Nat → Bs} {F : List Nat}

theorem IsCE.zero {v : Value} (h : IsCE w v 0) : v = .nilIface := by
  rcases h with ⟨_, h⟩ | ⟨h, _⟩
  · exact h
  · exact absurd rfl h

set_option maxHeartbeats 1000000 in
theorem chain_Get (first : Nat) (l : List Nat) (b : Bs) (h : TxSys w t n H F) (hf : first < 4294967296) (hR : getC n H first = (0, l, b)) :
    Calls Tryz.prog 59 #[.pointer (some ⟨t, 0, none⟩), .int .u32 first] w fun e w' => ∃ vb, e = .returned (.tuple #[vb, .int .i64 0]) ∧ OwnB w' w.heap.size vb b ∧ TxSys w' t n H F ∧ Kp F w w' := by
  have HG := Lib.hid (chain_gets first _ h hf hR)
  clear h hR
  go_enter Tryz.func59, Tryz.ntmps59
  go_wp2_with (go_at_call 112; refine HG.out.mono ?_; rintro e w1 ⟨vl, vb, ve, rfl, hl, hb, he, ht, hk⟩; obtain rfl := he.zero; obtain ⟨a1, c1, rfl⟩ := hl.shape; obtain ⟨a2, n2, c2, rfl⟩ := hb.bytes.shape; have HB := Lib.hid hb; have HT := Lib.hid ht; have HK := Lib.hid hk; clear hl hb he ht hk)
  go_ret2
  exact ⟨_, rfl, HB.out, HT.out, HK.out⟩

/-- 'string(b)' -/
theorem run_string_of (v : Value) (bs : Bs) (W : World) (h : BytesAt W v bs) : (convert 30 9 v).run Tryz.prog W = .ok (.string ⟨bs.toArray⟩) W := by
  rcases h with ⟨rfl, rfl⟩ | ⟨b, off, cap, cs, fz, rfl, h2, h3, h4, h5⟩
  · rw [run_convert_bytes_string W 30 9 5 none 0 0 Tryz.underlying30 Tryz.underlying5 Tryz.underlying9]
    rfl
  · refine run_convert_bytes_back W 30 9 5 _ cap bs Tryz.underlying30 Tryz.underlying5 Tryz.underlying9 fun j hj => ?_
    rw [addr_add]
    refine cell_of h3 _ ?_
    rw [h5 j hj, u8s_get, List.getElem?_eq_getElem hj]
    rfl

end
end Go.Proofs.YtonkeialdfofcaaGreatDoor
