/-
  A transaction over a live log: its contracts.
-/
import Derived.Test.YtonkeialdfofcaaGreatDoorLgSys
namespace Go.Proofs.YtonkeialdfofcaaGreatDoor
open Go.RowKit Go

/-- A transaction's two blocks. -/
structure TxAt (w : World) (t l bmt : Nat) (over : Bool) (al : List (Int × Value)) (T : List (Option Bs)) : Prop where
  own : w.heap[t]? = some (.cells #[.pointer (some ⟨l, 0, none⟩), .map (some bmt), .bool over] 143 (0, 0))
  mp : MapB w bmt al
  opts : Opts w al T
  ml : ∀ b, some b ∈ T → b.length = 248

section
variable {w : World} {t l bmt n p bl bm bm' : Nat} {D : Dk} {L : Lg} {f : Nat → Bs} {over : Bool} {al : List (Int × Value)} {T : List (Option Bs)}
theorem TxAt.kp {S : List Nat} {w' : World} (h : TxAt w t l bmt over al T) (k : Kp S w w') (hn : NoB w S) (h1 : t ∉ S) (h2 : bmt ∉ S) : TxAt w' t l bmt over al T :=
  ⟨k.at h.own h1, h.mp.kp k h2, h.opts.kp k hn, h.ml⟩
theorem TxAt.kp0 {w' : World} (h : TxAt w t l bmt over al T) (k : Kp [] w w') : TxAt w' t l bmt over al T := h.kp k (NoB.nil w) (by simp) (by simp)
theorem TxAt.noB (h : TxAt w t l bmt over al T) : NoB w [bmt] := h.mp.noB (NoB.nil w)

/-- The log's block is none of the transaction's. -/
theorem tx_lg (h : TxAt w t l bmt over al T) (hl : LgS w l n f p bl bm bm' D L) : t ≠ l ∧ bmt ≠ l ∧ t ≠ bmt := by
  obtain ⟨cs, ho⟩ := hl.own
  obtain ⟨es, c, hm, _⟩ := h.mp
  have a := h.own
  refine ⟨fun e => ?_, fun e => ?_, fun e => ?_⟩
  · rw [e, ho] at a; simp at a
  · rw [e, ho] at hm; simp at hm
  · rw [e, hm] at a; simp at a

set_option maxHeartbeats 1000000 in
theorem tx_may (h : TxAt w t l bmt false al T) (hl : LgS w l n f p bl bm bm' D L) :
    Calls Tryz.prog 107 #[.pointer (some ⟨t, 0, none⟩)] w fun e w' => e = .returned .nilIface ∧ ∃ k, w' = w.drewN k := by
  have HL := Lib.hid hl
  have c0 := cell_of h.own 0 (v := .pointer (some ⟨l, 0, none⟩)) rfl
  have c2 := cell_of h.own 2 (v := .bool false) rfl
  have hn : ((n : Int) == 0) = false := beq_eq_false_iff_ne.2 (by have := hl.pos; omega)
  clear h hl
  go_enter Tryz.func107, Tryz.ntmps107
  go_wp2_with (go_at_call 40; refine (lgs_homes HL.out).mono ?_; rintro e w' ⟨rfl, k, rfl⟩)
  go_ret
  exact ⟨rfl, _, rfl⟩

theorem tx_homes (h : TxAt w t l bmt over al T) (hl : LgS w l n f p bl bm bm' D L) :
    Calls Tryz.prog 53 #[.pointer (some ⟨t, 0, none⟩)] w fun e w' => e = .returned (.int .i64 n) ∧ ∃ k, w' = w.drewN k := by
  have HL := Lib.hid hl
  have c0 := cell_of h.own 0 (v := .pointer (some ⟨l, 0, none⟩)) rfl
  clear h hl
  go_enter Tryz.func53, Tryz.ntmps53
  go_wp2_with (go_at_call 40; refine (lgs_homes HL.out).mono ?_; rintro e w' ⟨rfl, k, rfl⟩)
  go_ret
  exact ⟨rfl, _, rfl⟩

theorem tx_begin (l : Nat) (w : World) (m : Nat) :
    Calls Tryz.prog 44 #[.pointer (some ⟨l, 0, none⟩)] w fun e w' => ∃ t bmt, e = .returned (.pointer (some ⟨t, 0, none⟩)) ∧ TxAt w' t l bmt false [] (List.replicate m none) ∧ w.heap.size ≤ t ∧ w.heap.size ≤ bmt ∧ Kp [] w w' := by
  have hmm := @run_makeMap Tryz.prog
  go_enter Tryz.func44, Tryz.ntmps44
  go_wp2
  go_ret
  refine ⟨w.heap.size + 1, w.heap.size, rfl, ⟨heap_alloc2_new _ _ _, (MapB.new w).kp (Kp.alloc _ _) (by simp), ⟨fun i v hv => by simp [alook] at hv, fun j bs hj => by simp [List.getElem?_replicate] at hj⟩, fun b hb => absurd (List.mem_replicate.1 hb).2 (by simp)⟩, by omega, Nat.le_refl _, (Kp.alloc _ _).and (Kp.alloc _ _)⟩

/-- What a home reads as within a transaction. -/
def txH (T : List (Option Bs)) (f : Nat → Bs) (i : Nat) : Bs := match T.getD i none with | some b => b | none => f i

set_option maxHeartbeats 2000000 in
theorem tx_read (i : Nat) (h : TxAt w t l bmt false al T) (hl : LgS w l n f p bl bm bm' D L) (hi : i < n) :
    Calls Tryz.prog 47 #[.pointer (some ⟨t, 0, none⟩), .int .i64 i] w fun e w' => ∃ v, e = .returned (.tuple #[v, .int .i64 0]) ∧ OwnS w' w.heap.size v (txH T f i) ∧ TxAt w' t l bmt false al T ∧ LgS w' l n f p bl bm bm' D L ∧ Kp [l] w w' := by
  have HL := Lib.hid hl
  have HT := Lib.hid h
  have c0 := cell_of h.own 0 (v := .pointer (some ⟨l, 0, none⟩)) rfl
  have c1 := cell_of h.own 1 (v := .map (some bmt)) rfl
  cases hlk : alook al i with
  | some u =>
    obtain ⟨j, e, b, g1, g2⟩ := h.opts.1 _ _ hlk
    obtain rfl : i = j := by omega
    have hE : txH T f i = b := by simp [txH, List.getD, g1]
    have HBL := Lib.hid (h.ml b (List.mem_of_getElem? g1))
    have HE := Lib.hid hE
    have HB := Lib.hid g2
    have hlook : ∀ k, (Instr.lookup 109 (.map (some bmt)) (.int .i64 i) true).run Tryz.prog (w.drewN k) = .ok (.tuple #[u, .bool true]) (w.drewN k) := fun k => run_look_some (P := Tryz.prog) Tryz.underlying109 Tryz.underlying3 (h.mp.kp (Kp.drewN w k) (by simp)) hlk true
    obtain ⟨a, n0, cp, rfl⟩ := g2.shape
    clear h hl hlk g1 g2 hE
    go_enter Tryz.func47, Tryz.ntmps47
    go_wp2_with (first
      | (go_at_call 107; refine (tx_may HT.out HL.out).mono ?_; rintro e w' ⟨rfl, k, rfl⟩)
      | (go_at_call 82; refine (clone_b _ b _ (HB.out.kp0 (Kp.drewN _ _)) (by rw [HBL.out]; decide)).mono ?_; rintro e w1 ⟨v1, rfl, ho, hk⟩))
    go_ret2
    have hk2 := (Kp.drewN _ _).and hk
    exact ⟨_, rfl, by rw [HE.out]; exact ho.ownS, HT.out.kp0 hk2, HL.out.kp0 hk2, hk2.mono (by simp)⟩
  | none =>
    have hm0 : T.getD i none = none := by
      cases hw : T[i]? with
      | none => simp [List.getD, hw]
      | some ob =>
        cases ob with
        | none => simp [List.getD, hw]
        | some b =>
          obtain ⟨v', h3, _⟩ := h.opts.2 i b hw
          rw [hlk] at h3; simp at h3
    have hE : txH T f i = f i := by unfold txH; rw [hm0]
    have HE := Lib.hid hE
    have hlook : ∀ k, (Instr.lookup 109 (.map (some bmt)) (.int .i64 i) true).run Tryz.prog (w.drewN k) = .ok (.tuple #[.slice none 0 0, .bool false]) (w.drewN k) := fun k => run_look_none (P := Tryz.prog) Tryz.underlying109 Tryz.underlying3 (h.mp.kp (Kp.drewN w k) (by simp)) (zero30 _) hlk true
    clear h hl hlk hE hm0
    go_enter Tryz.func47, Tryz.ntmps47
    go_wp2_with (first
      | (go_at_call 107; refine (tx_may HT.out HL.out).mono ?_; rintro e w' ⟨rfl, k, rfl⟩)
      | (go_at_call 22; refine (lgs_read i (HL.out.kp0 (Kp.drewN _ _)) hi).mono ?_; rintro e w1 ⟨v1, rfl, ho, hl1, hk⟩))
    go_ret2
    have hk2 := ((Kp.drewN _ _).mono (by simp)).and hk
    obtain ⟨n1, n2, n3⟩ := tx_lg HT.out HL.out
    exact ⟨_, rfl, by rw [HE.out]; exact ho, HT.out.kp hk2 HL.out.noB1 (by simpa using n1) (by simpa using n2), hl1, hk2⟩
end
end Go.Proofs.YtonkeialdfofcaaGreatDoor
