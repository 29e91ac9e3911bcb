/-
  A transaction that was only read since a world w0: whatever blocks from w0's size on do, it stands.
-/
import Derived.Test.YtonkeialdfofcaaGreatDoorPut
namespace Go.Proofs.YtonkeialdfofcaaGreatDoor
open Go.RowKit Go

def TxRd (w0 w : World) (t n : Nat) (H : Nat → Bs) (F : List Nat) : Prop :=
  ∃ l bmt al T f p bl bm bm' D L, F = [l, bmt] ∧ TxAt w0 t l bmt false al T ∧ LgS w0 l n f p bl bm bm' D L ∧ bmt ≠ bm ∧ bmt ≠ bm' ∧ T.length = n ∧ (∀ i, i < n → txH T f i = H i) ∧ IsLg w l p bm' L ∧ Kp [l] w0 w

section
variable {w0 w : World} {t n : Nat} {H : Nat → Bs} {F : List Nat}

theorem TxSys.rd (h : TxSys w t n H F) : TxRd w w t n H F := by
  obtain ⟨l, bmt, al, T, f, p, bl, bm, bm', D, L, h1, h2, h3, h4, h5, h6, h7⟩ := h
  exact ⟨l, bmt, al, T, f, p, bl, bm, bm', D, L, h1, h2, h3, h4, h5, h6, h7, h3.lg, Kp.refl _ _⟩

theorem TxRd.sys (h : TxRd w0 w t n H F) : TxSys w t n H F := by
  obtain ⟨l, bmt, al, T, f, p, bl, bm, bm', D, L, h1, h2, h3, h4, h5, h6, h7, h8, h9⟩ := h
  obtain ⟨n1, n2, n3⟩ := tx_lg h2 h3
  exact ⟨l, bmt, al, T, f, p, bl, bm, bm', D, L, h1, h2.kp h9 h3.noB1 (by simpa using n1) (by simpa using n2), h3.kpl h9 h8, h4, h5, h6, h7⟩

theorem TxRd.kp {S : List Nat} {w' : World} (h : TxRd w0 w t n H F) (k : Kp S w w') (hS : ∀ x ∈ S, w0.heap.size ≤ x) : TxRd w0 w' t n H F := by
  obtain ⟨l, bmt, al, T, f, p, bl, bm, bm', D, L, h1, h2, h3, h4, h5, h6, h7, h8, h9⟩ := h
  obtain ⟨cs, hown⟩ := h3.own
  have hlS : l ∉ S := fun c => by have := hS l c; have := lt_of_blk hown; omega
  have k0 : Kp [l] w0 w' := h9.trans k (fun x hx => .inr (hS x hx))
  exact ⟨l, bmt, al, T, f, p, bl, bm, bm', D, L, h1, h2, h3, h4, h5, h6, h7, h3.lg.join h8 k0 k hlS, k0⟩
theorem TxRd.kp0 {w' : World} (h : TxRd w0 w t n H F) (k : Kp [] w w') : TxRd w0 w' t n H F := h.kp k (by simp)
theorem TxRd.fr (h : TxRd w0 w t n H F) : Kp F w0 w := by
  obtain ⟨l, bmt, al, T, f, p, bl, bm, bm', D, L, rfl, h2, h3, h4, h5, h6, h7, h8, h9⟩ := h
  exact h9.mono (by simp)

theorem rd_read (i : Nat) (h : TxRd w0 w t n H F) (hi : i < n) :
    Calls Tryz.prog 47 #[.pointer (some ⟨t, 0, none⟩), .int .i64 i] w fun e w' => ∃ v, e = .returned (.tuple #[v, .int .i64 0]) ∧ OwnS w' w.heap.size v (H i) ∧ TxRd w0 w' t n H F ∧ Kp F w w' := by
  obtain ⟨l, bmt, al, T, f, p, bl, bm, bm', D, L, rfl, h2, h3, h4, h5, h6, h7, h8, h9⟩ := h
  obtain ⟨n1, n2, n3⟩ := tx_lg h2 h3
  refine (tx_read i (h2.kp h9 h3.noB1 (by simpa using n1) (by simpa using n2)) (h3.kpl h9 h8) hi).mono fun e w' hp => ?_
  obtain ⟨v, he, ho, ht, hl, hk⟩ := hp
  exact ⟨v, he, h7 i hi ▸ ho, ⟨l, bmt, al, T, f, p, bl, bm, bm', D, L, rfl, h2, h3, h4, h5, h6, h7, hl.lg, h9.and hk⟩, hk.mono (by simp)⟩
end
end Go.Proofs.YtonkeialdfofcaaGreatDoor
