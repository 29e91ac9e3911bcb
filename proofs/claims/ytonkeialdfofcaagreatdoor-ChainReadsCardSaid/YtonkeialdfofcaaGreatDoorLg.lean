/-
  The log in memory, and the contracts of its small functions.
-/
import Derived.Test.YtonkeialdfofcaaGreatDoorDk5
import Derived.Test.YtonkeialdfofcaaGreatDoorTake
import Derived.Deep.QuietTactic
import Derived.BigQuiet
import Derived.BigGuardPart
namespace Go.Proofs.YtonkeialdfofcaaGreatDoor
open Go.RowKit Go

/-- A log: what it holds besides its disk. -/
structure Lg where
  lives : Int
  done : Bool
  s : Nat
  turn : Nat
  place : Nat
  ring : Nat
  free : Int
  m : List (Option Bs)

def Lg.did (L : Lg) (e : Int) : Lg := { L with done := L.done || (e != 0) }

/-- Pointer l leads to the log L over the disk at p; its own blocks: l, bm. -/
structure LgAt (w : World) (l p bm : Nat) (L : Lg) (al : List (Int × Value)) : Prop where
  own : w.heap[l]? = some (.cells #[.pointer (some ⟨p, 0, none⟩), .int .i64 L.lives, .bool L.done, .int .u64 L.s, .int .u64 L.turn, .int .i64 L.place, .int .i64 L.ring, .int .i64 L.free, .map (some bm)] 118 (0, 0))
  mp : MapB w bm al
  opts : Opts w al L.m
  slt : L.s < 18446744073709551616
  tlt : L.turn < 18446744073709551616
  rhi : L.ring ≤ 1000000
  phi : L.place ≤ 1000000000

def IsLg (w : World) (l p bm : Nat) (L : Lg) : Prop := ∃ al, LgAt w l p bm L al

/-- An error of a code; nil: 0. -/
def IsErr (w : World) (v : Value) (c : Int) : Prop :=
  (c = 0 ∧ v = .nilIface) ∨ (c ≠ 0 ∧ ∃ b x, v = .iface 162 (.pointer (some ⟨b, 0, none⟩)) ∧ w.heap[b]? = some (.cells #[.int .i64 c, x] 166 (0, 0)))

section
variable {w : World} {l p bl bm bm' : Nat} {L : Lg} {D : Dk} {al : List (Int × Value)}
theorem LgAt.noB (h : LgAt w l p bm L al) : NoB w [l, bm] := NoB.cons h.own (by simp) (h.mp.noB (NoB.nil w))
theorem LgAt.noB1 (h : LgAt w l p bm L al) : NoB w [l] := NoB.cons h.own (by simp) (NoB.nil w)
theorem IsLg.noB (h : IsLg w l p bm L) : NoB w [l, bm] := by obtain ⟨al, h⟩ := h; exact h.noB
theorem IsLg.noB1 (h : IsLg w l p bm L) : NoB w [l] := by obtain ⟨al, h⟩ := h; exact h.noB1
theorem LgAt.ne (h : LgAt w l p bm L al) : l ≠ bm := fun e => by
  obtain ⟨es, c, h1, _⟩ := h.mp
  have a := h.own; rw [e, h1] at a; simp at a
theorem LgAt.kp {S : List Nat} {w' : World} (h : LgAt w l p bm L al) (k : Kp S w w') (hn : NoB w S) (h1 : l ∉ S) (h2 : bm ∉ S) : LgAt w' l p bm L al :=
  ⟨k.at h.own h1, h.mp.kp k h2, h.opts.kp k hn, h.slt, h.tlt, h.rhi, h.phi⟩
theorem IsLg.kp {S : List Nat} {w' : World} (h : IsLg w l p bm L) (k : Kp S w w') (hn : NoB w S) (h1 : l ∉ S) (h2 : bm ∉ S) : IsLg w' l p bm L := by
  obtain ⟨al, h⟩ := h; exact ⟨al, h.kp k hn h1 h2⟩
theorem IsLg.kp0 {w' : World} (h : IsLg w l p bm L) (k : Kp [] w w') : IsLg w' l p bm L := h.kp k (NoB.nil w) (by simp) (by simp)
theorem IsErr.kp {S : List Nat} {w' : World} {v : Value} {c : Int} (h : IsErr w v c) (k : Kp S w w') (hs : ∀ b ∈ S, ∀ cs fz, w.heap[b]? ≠ some (.cells cs 166 fz)) : IsErr w' v c := by
  rcases h with h | ⟨h1, b, x, h2, h3⟩
  · exact .inl h
  · exact .inr ⟨h1, b, x, h2, k.at h3 (fun c => hs b c _ _ h3)⟩
theorem IsErr.zero {v : Value} (h : IsErr w v 0) : v = .nilIface := by
  rcases h with ⟨_, h⟩ | ⟨h, _⟩
  · exact h
  · exact absurd rfl h
theorem IsErr.nil (w : World) : IsErr w .nilIface 0 := .inl ⟨rfl, rfl⟩

/-- The log's block and the disk's three are four, and so are both maps' blocks. -/
theorem lg_dk (hl : IsLg w l p bm' L) (hd : IsDk w p bl bm D) : l ≠ p ∧ l ≠ bl ∧ l ≠ bm ∧ bm' ≠ p ∧ bm' ≠ bl := by
  obtain ⟨al, hl⟩ := hl
  obtain ⟨cs, al2, vt, hd⟩ := hd
  obtain ⟨es, c, h1, _⟩ := hl.mp
  obtain ⟨es2, c2, h2, _⟩ := hd.mp
  have a := hl.own
  have b := hd.own
  have d := hd.row.1
  refine ⟨fun e => ?_, fun e => ?_, fun e => ?_, fun e => ?_, fun e => ?_⟩
  · rw [e, b] at a; simp at a
  · rw [e, d] at a; simp at a
  · rw [e, h2] at a; simp at a
  · rw [e, b] at h1; simp at h1
  · rw [e, d] at h1; simp at h1

theorem bad_ok (e : Int) (w : World) : Calls Tryz.prog 125 #[.int .i64 e] w fun r w' => ∃ v, r = .returned v ∧ IsErr w' v e ∧ Kp [] w w' := by
  by_cases he : e = 0
  · subst he
    go_enter Tryz.func125, Tryz.ntmps125
    go_wp2
    go_ret
    exact ⟨_, rfl, IsErr.nil _, Kp.refl _ _⟩
  · have h : (e == 0) = false := beq_eq_false_iff_ne.2 he
    have HE := Lib.hid he
    clear he
    go_enter Tryz.func125, Tryz.ntmps125
    go_wp2
    go_ret
    exact ⟨_, rfl, .inr ⟨HE.out, _, _, rfl, blk_alloc_new _ _⟩, Kp.alloc _ _⟩

theorem did_eq (L : Lg) (e : Int) : (L.did e).done = (L.done || (e != 0)) := rfl

theorem lg_does (l p bm : Nat) (L : Lg) (e : Int) (w : World) (h : IsLg w l p bm L) :
    Calls Tryz.prog 133 #[.pointer (some ⟨l, 0, none⟩), .int .i64 e] w fun r w' => ∃ v, r = .returned v ∧ IsErr w' v e ∧ IsLg w' l p bm (L.did e) ∧ Kp [l] w w' := by
  obtain ⟨al, h⟩ := h
  have c2 := cell_of h.own 2 (v := .bool L.done) rfl
  have f2 := free_of h.own 2
  have hb : (L.done = true ∨ (L.done = false ∧ (e != 0) = true)) ∨ (L.done = false ∧ (e != 0) = false) := by
    cases L.done <;> cases (e != 0) <;> simp
  have H := Lib.hid h
  clear h
  rcases hb with (hb | ⟨hb, hb2⟩) | ⟨hb, hb2⟩
  all_goals
    rw [hb] at c2
    have HB := Lib.hid hb
    clear hb
    go_enter Tryz.func133, Tryz.ntmps133
    go_wp2_with (go_at_call 125; refine (bad_ok _ _).mono ?_; rintro e' w1 ⟨v1, rfl, he, hk⟩)
    go_ret
    refine ⟨_, rfl, he, ?_, (Kp.setCell w ⟨l, 2, none⟩ _).trans hk (by simp)⟩
    have hk1 := Kp.setCell w ⟨l, 2, none⟩ (.bool (L.done || (e != 0)))
    have hE : ∀ b, (L.done || (e != 0)) = b → LgAt (w.setCell ⟨l, 2, none⟩ (.bool b)) l p bm (L.did e) al := by
      rintro b rfl
      exact ⟨by rw [blk_setCell H.out.own]; rfl, H.out.mp.kp hk1 (by simpa using H.out.ne.symm), H.out.opts.kp hk1 H.out.noB1, H.out.slt, H.out.tlt, H.out.rhi, H.out.phi⟩
    exact IsLg.kp0 ⟨al, hE _ (by simp [HB.out, *])⟩ hk

set_option maxHeartbeats 400000 in
theorem lg_read (l p bl bm bm' : Nat) (L : Lg) (D : Dk) (i : Int) (w : World) (h : IsLg w l p bm' L) (hd : IsDk w p bl bm D) :
    Calls Tryz.prog 84 #[.pointer (some ⟨l, 0, none⟩), .int .i64 i] w fun r w' => ∃ v err, r = .returned (.tuple #[v, err]) ∧ IsErr w' err (D.may i) ∧ (D.may i = 0 → OwnB w' w.heap.size v (D.sec i.toNat)) ∧ IsLg w' l p bm' (L.did (D.may i)) ∧ Kp [l] w w' := by
  have HD := Lib.hid hd
  have HL := Lib.hid h
  have c0 : w.cell? ⟨l, 0, none⟩ = some (.pointer (some ⟨p, 0, none⟩)) := by obtain ⟨al, h⟩ := h; exact cell_of h.own 0 rfl
  clear h hd
  go_enter Tryz.func84, Tryz.ntmps84
  go_wp2_with (first
    | (go_at_call 102; refine (dk_read p bl bm D i _ HD.out).mono ?_; rintro e w1 ⟨v1, rfl, h0, h1, hk1⟩; have H1 := Lib.hid h1; have H2 := Lib.hid (HL.out.kp0 hk1); clear h0 h1)
    | (go_at_call 133; refine (lg_does l p bm' L _ _ H2.out).mono ?_; rintro e w2 ⟨v2, rfl, he, hl2, hk2⟩))
  go_ret2
  have hnb : NoB w1 [l] := (HL.out.kp0 hk1).noB1
  have hlt := lt_of_blk HL.out.choose_spec.own
  exact ⟨v1, v2, rfl, he, fun c => (H1.out c).kp hk2 (by simpa using hlt), hl2, (hk1.mono (by simp)).and hk2⟩
end
end Go.Proofs.YtonkeialdfofcaaGreatDoor
