/-
  The disk as plain data, and what it is in memory.
-/
import Derived.Test.YtonkeialdfofcaaGreatDoorOct
import Derived.Test.YtonkeialdfofcaaGreatDoorIter
namespace Go.Proofs.YtonkeialdfofcaaGreatDoor
open Go.RowKit Go

abbrev Bs := List UInt8

/-- A disk: what lasts, what waits, sector by sector. -/
structure Dk where
  lasts : List Bs
  waits : List (Option Bs)
  dead : Bool
  armed : Bool
  n : Int
  part : Nat
  way : Int
  torn : Bs
  writes : Int
  lives : Int

/-- What holds of every disk that New made. -/
structure Dk.Ok (D : Dk) : Prop where
  same : D.waits.length = D.lasts.length
  lo : 32 ≤ D.lasts.length
  hi : D.lasts.length ≤ 1900
  ls : ∀ b ∈ D.lasts, b.length = 256
  ws : ∀ b, some b ∈ D.waits → b.length = 256
  nlo : -9223372036854775808 ≤ D.n
  nhi : D.n ≤ 9223372036854775807
  part : D.part ≤ 256
  way : D.way < D.lasts.length
  torn : D.torn.length ≤ 256
  tornNone : D.way < 0 → D.torn = []

namespace Dk
def len (D : Dk) : Nat := D.lasts.length
def may (D : Dk) (i : Int) : Int := if D.dead then 12 else if i < 0 ∨ D.len ≤ i then 1 else 0
/-- What a sector reads as. -/
def sec (D : Dk) (i : Nat) : Bs := match D.waits.getD i none with | some b => b | none => D.lasts.getD i []
def fails (D : Dk) : Bool := D.armed && !decide (0 < D.n)
/-- The disk behind the question whether it fails. -/
def aft (D : Dk) : Dk := if D.armed then (if 0 < D.n then { D with n := D.n - 1 } else { D with dead := true, armed := false }) else D
def write (D : Dk) (i : Int) (b : Bs) : Int × Dk :=
  if D.may i ≠ 0 then (D.may i, D) else if b.length ≠ 256 then (13, D)
  else if D.fails then (12, { D.aft with way := i, torn := b.take D.part })
  else (0, { D.aft with waits := D.waits.set i.toNat (some b), writes := wrap64 (D.writes + 1) })
def secs (D : Dk) : List Bs := (List.range D.len).map D.sec
def flush (D : Dk) : Int × Dk :=
  if D.dead then (12, D) else if D.fails then (12, D.aft)
  else (0, { D.aft with lasts := D.secs, waits := List.replicate D.len none })
def arm (D : Dk) (n : Int) (part : Int) : Dk := { D with armed := decide (0 ≤ n), n := n, part := (min (max part 0) 256).toNat }
end Dk

/-- A row of byte slices: block b holds, cell by cell, slices that read as ls. -/
def RowB (w : World) (b : Nat) (cs : Array Value) (ls : List Bs) : Prop :=
  w.heap[b]? = some (.cells cs 30 (0, 0)) ∧ ls.length ≤ cs.size ∧ ∀ i (h : i < ls.length), ∃ v, cs[i]? = some v ∧ BytesAt w v ls[i]
/-- A map's pairs read as a list of what there may be. -/
def Opts (w : World) (al : List (Int × Value)) (os : List (Option Bs)) : Prop :=
  (∀ i v, alook al i = some v → ∃ j : Nat, i = j ∧ ∃ bs, os[j]? = some (some bs) ∧ BytesAt w v bs) ∧
  (∀ (j : Nat) bs, os[j]? = some (some bs) → ∃ v, alook al j = some v ∧ BytesAt w v bs)

/-- The disk's own three blocks. -/
structure DkAt (w : World) (p bl bm : Nat) (D : Dk) (cs : Array Value) (al : List (Int × Value)) (vt : Value) : Prop where
  own : w.heap[p]? = some (.cells #[.slice (some ⟨bl, 0, none⟩) D.lasts.length cs.size, .map (some bm), .bool D.dead, .bool D.armed, .int .i64 D.n, .int .i64 D.part, .int .i64 D.way, vt, .int .i64 D.writes, .int .i64 D.lives] 111 (0, 0))
  row : RowB w bl cs D.lasts
  capb : cs.size ≤ maxLen
  mp : MapB w bm al
  opts : Opts w al D.waits
  torn : BytesAt w vt D.torn
  ok : D.Ok

/-- Pointer p leads to the disk D, which owns the blocks p, bl, bm. -/
def IsDk (w : World) (p bl bm : Nat) (D : Dk) : Prop := ∃ cs al vt, DkAt w p bl bm D cs al vt

theorem MapB.noB {w : World} {b : Nat} {l : List (Int × Value)} (h : MapB w b l) {S : List Nat} (hs : NoB w S) : NoB w (b :: S) := by
  obtain ⟨es, c, h1, _⟩ := h
  exact NoB.cons h1 (by simp) hs
theorem RowB.kp {S : List Nat} {w w' : World} {b : Nat} {cs : Array Value} {ls : List Bs} (h : RowB w b cs ls) (k : Kp S w w') (hb : b ∉ S) (hn : NoB w S) : RowB w' b cs ls :=
  ⟨k.at h.1 hb, h.2.1, fun i hi => let ⟨v, h1, h2⟩ := h.2.2 i hi; ⟨v, h1, h2.kp k hn⟩⟩
theorem Opts.kp {S : List Nat} {w w' : World} {al : List (Int × Value)} {os : List (Option Bs)} (h : Opts w al os) (k : Kp S w w') (hn : NoB w S) : Opts w' al os :=
  ⟨fun i v hv => let ⟨j, e, bs, h1, h2⟩ := h.1 i v hv; ⟨j, e, bs, h1, h2.kp k hn⟩, fun j bs hj => let ⟨v, h1, h2⟩ := h.2 j bs hj; ⟨v, h1, h2.kp k hn⟩⟩
section
variable {w : World} {p bl bm : Nat} {D : Dk} {cs : Array Value} {al : List (Int × Value)} {vt : Value}
theorem DkAt.noB (h : DkAt w p bl bm D cs al vt) : NoB w [p, bl, bm] :=
  NoB.cons h.own (by simp) (NoB.cons h.row.1 (by simp) (h.mp.noB (NoB.nil w)))
theorem DkAt.ne1 (h : DkAt w p bl bm D cs al vt) : p ≠ bl := fun e => by have a := h.own; rw [e, h.row.1] at a; simp at a
theorem DkAt.ne2 (h : DkAt w p bl bm D cs al vt) : p ≠ bm := fun e => by
  obtain ⟨es, c, h1, _⟩ := h.mp
  have a := h.own; rw [e, h1] at a; simp at a
theorem DkAt.ne3 (h : DkAt w p bl bm D cs al vt) : bl ≠ bm := fun e => by
  obtain ⟨es, c, h1, _⟩ := h.mp
  have a := h.row.1; rw [e, h1] at a; simp at a
theorem DkAt.kp {S : List Nat} {w' : World} (h : DkAt w p bl bm D cs al vt) (k : Kp S w w') (hn : NoB w S) (h1 : p ∉ S) (h2 : bl ∉ S) (h3 : bm ∉ S) : DkAt w' p bl bm D cs al vt :=
  ⟨k.at h.own h1, h.row.kp k h2 hn, h.capb, h.mp.kp k h3, h.opts.kp k hn, h.torn.kp k hn, h.ok⟩
theorem DkAt.kp0 {w' : World} (h : DkAt w p bl bm D cs al vt) (k : Kp [] w w') : DkAt w' p bl bm D cs al vt := h.kp k (NoB.nil w) (by simp) (by simp) (by simp)
theorem IsDk.kp {S : List Nat} {w' : World} (h : IsDk w p bl bm D) (k : Kp S w w') (hn : NoB w S) (h1 : p ∉ S) (h2 : bl ∉ S) (h3 : bm ∉ S) : IsDk w' p bl bm D := by
  obtain ⟨cs, al, vt, h⟩ := h
  exact ⟨cs, al, vt, h.kp k hn h1 h2 h3⟩
theorem IsDk.kp0 {w' : World} (h : IsDk w p bl bm D) (k : Kp [] w w') : IsDk w' p bl bm D := h.kp k (NoB.nil w) (by simp) (by simp) (by simp)
theorem IsDk.ok (h : IsDk w p bl bm D) : D.Ok := by obtain ⟨cs, al, vt, h⟩ := h; exact h.ok
theorem IsDk.noB (h : IsDk w p bl bm D) : NoB w [p, bl, bm] := by obtain ⟨cs, al, vt, h⟩ := h; exact h.noB

theorem ret_i {k : IntKind} {a b : Int} (h : a = b) : Ending.returned (.int k a) = .returned (.int k b) := by rw [h]

theorem dk_len (p bl bm : Nat) (D : Dk) (w : World) (h : IsDk w p bl bm D) :
    Calls Tryz.prog 68 #[.pointer (some ⟨p, 0, none⟩)] w fun e w' => e = .returned (.int .i64 D.len) ∧ w = w' := by
  obtain ⟨cs, al, vt, h⟩ := h
  have c0 := cell_of h.own 0 (v := .slice (some ⟨bl, 0, none⟩) D.lasts.length cs.size) rfl
  clear h
  go_enter Tryz.func68, Tryz.ntmps68
  go_wp2
  go_ret
  exact ⟨rfl, rfl⟩

theorem may_eq (D : Dk) (i : Int) : D.may i = if D.dead then 12 else if i < 0 ∨ D.len ≤ i then 1 else 0 := rfl

set_option maxHeartbeats 400000 in
theorem dk_may (p bl bm : Nat) (D : Dk) (i : Int) (w : World) (h : IsDk w p bl bm D) :
    Calls Tryz.prog 118 #[.pointer (some ⟨p, 0, none⟩), .int .i64 i] w fun e w' => e = .returned (.int .i64 (D.may i)) ∧ w = w' := by
  have hd := Lib.hid h
  have hM := Lib.hid (may_eq D i)
  obtain ⟨cs, al, vt, h⟩ := h
  have c0 := cell_of h.own 0 (v := .slice (some ⟨bl, 0, none⟩) D.lasts.length cs.size) rfl
  have c2 := cell_of h.own 2 (v := .bool D.dead) rfl
  have hl := h.ok.lo
  have hL : ((D.len : Int) == 0) = false := beq_eq_false_iff_ne.2 (by unfold Dk.len; omega)
  clear h
  generalize D.may i = M at *
  go_enter Tryz.func118, Tryz.ntmps118
  cases hdd : D.dead with
  | true =>
    rw [hdd] at c2
    go_wp2_with (go_at_call 68; refine (dk_len _ _ _ _ _ hd.out).mono ?_; rintro e w' ⟨rfl, rfl⟩)
    go_ret
    exact ⟨by rw [hM.out, hdd]; rfl, rfl⟩
  | false =>
    rw [hdd] at c2
    go_wp2_with (go_at_call 68; refine (dk_len _ _ _ _ _ hd.out).mono ?_; rintro e w' ⟨rfl, rfl⟩)
    all_goals
      go_ret
      refine ⟨ret_i ?_, rfl⟩
      rw [hM.out, hdd]
      unfold Dk.len
      simp only [Bool.false_eq_true, if_false]
      first | rw [if_pos (by omega)] | rw [if_neg (by omega)]

theorem aft_armed {D : Dk} (h : D.armed = true) (hn : 0 < D.n) : D.aft = { D with n := D.n - 1 } := by unfold Dk.aft; rw [if_pos h, if_pos hn]
theorem aft_fails {D : Dk} (h : D.armed = true) (hn : ¬ 0 < D.n) : D.aft = { D with dead := true, armed := false } := by unfold Dk.aft; rw [if_pos h, if_neg hn]
theorem aft_not {D : Dk} (h : D.armed = false) : D.aft = D := by unfold Dk.aft; simp [h]
theorem aft_lasts (D : Dk) : D.aft.lasts = D.lasts := by unfold Dk.aft; split <;> (try split) <;> rfl
theorem aft_waits (D : Dk) : D.aft.waits = D.waits := by unfold Dk.aft; split <;> (try split) <;> rfl
theorem aft_torn (D : Dk) : D.aft.torn = D.torn := by unfold Dk.aft; split <;> (try split) <;> rfl
theorem aft_way (D : Dk) : D.aft.way = D.way := by unfold Dk.aft; split <;> (try split) <;> rfl
theorem aft_part (D : Dk) : D.aft.part = D.part := by unfold Dk.aft; split <;> (try split) <;> rfl
theorem aft_writes (D : Dk) : D.aft.writes = D.writes := by unfold Dk.aft; split <;> (try split) <;> rfl
theorem aft_lives (D : Dk) : D.aft.lives = D.lives := by unfold Dk.aft; split <;> (try split) <;> rfl
theorem Dk.Ok.aft {D : Dk} (h : D.Ok) : D.aft.Ok := by
  obtain ⟨a, b, c, d, e, f, g, i, j, k, l⟩ := h
  unfold Dk.aft
  split
  · split
    · exact ⟨a, b, c, d, e, by show _ ≤ D.n - 1; omega, by show D.n - 1 ≤ _; omega, i, j, k, l⟩
    · exact ⟨a, b, c, d, e, f, g, i, j, k, l⟩
  · exact ⟨a, b, c, d, e, f, g, i, j, k, l⟩

/-- The disk's own block with other values in it; the rest as it was. -/
theorem DkAt.other {w' : World} {S : List Nat} {D' : Dk} {vt' : Value} (h : DkAt w p bl bm D cs al vt) (k : Kp S w w') (hn : NoB w S) (hl : bl ∉ S) (hm : bm ∉ S)
    (ho : w'.heap[p]? = some (.cells #[.slice (some ⟨bl, 0, none⟩) D'.lasts.length cs.size, .map (some bm), .bool D'.dead, .bool D'.armed, .int .i64 D'.n, .int .i64 D'.part, .int .i64 D'.way, vt', .int .i64 D'.writes, .int .i64 D'.lives] 111 (0, 0)))
    (h1 : D'.lasts = D.lasts) (h2 : D'.waits = D.waits) (h3 : BytesAt w' vt' D'.torn) (hok : D'.Ok) : DkAt w' p bl bm D' cs al vt' :=
  ⟨ho, h1 ▸ h.row.kp k hl hn, h.capb, h.mp.kp k hm, h2 ▸ h.opts.kp k hn, h3, hok⟩
theorem noB1 (h : DkAt w p bl bm D cs al vt) : NoB w [p] := NoB.cons h.own (by simp) (NoB.nil w)

set_option maxHeartbeats 400000 in
theorem dk_fails (p bl bm : Nat) (D : Dk) (w : World) (h : IsDk w p bl bm D) :
    Calls Tryz.prog 119 #[.pointer (some ⟨p, 0, none⟩)] w fun e w' => e = .returned (.bool D.fails) ∧ IsDk w' p bl bm D.aft ∧ Kp [p] w w' := by
  obtain ⟨cs, al, vt, h⟩ := h
  have c3 := cell_of h.own 3 (v := .bool D.armed) rfl
  have c4 := cell_of h.own 4 (v := .int .i64 D.n) rfl
  have f2 := free_of h.own 2
  have f3 := free_of h.own 3
  have f4 := free_of h.own 4
  have c2 := cell_of h.own 2 (v := .bool D.dead) rfl
  have n1 := h.ok.nlo
  have n2 := h.ok.nhi
  have H := Lib.hid h
  clear h
  cases ha : D.armed with
  | false =>
    have HA := Lib.hid ha
    rw [ha] at c3
    clear ha
    go_enter Tryz.func119, Tryz.ntmps119
    go_wp2
    go_ret
    exact ⟨by simp [Dk.fails, HA.out], by rw [aft_not HA.out]; exact ⟨cs, al, vt, H.out⟩, Kp.refl _ _⟩
  | true =>
    have HA := Lib.hid ha
    rw [ha] at c3
    clear ha
    by_cases hn : 0 < D.n
    · go_enter Tryz.func119, Tryz.ntmps119
      go_wp2
      go_ret
      have hk := Kp.setCell w ⟨p, 4, none⟩ (.int .i64 (D.n - 1))
      refine ⟨by simp [Dk.fails, HA.out, hn], ⟨cs, al, vt, H.out.other hk (noB1 H.out) (by simpa using H.out.ne1.symm) (by simpa using H.out.ne2.symm) ?_ (aft_lasts D) (aft_waits D) ?_ H.out.ok.aft⟩, hk⟩
      · rw [blk_setCell H.out.own, aft_armed HA.out hn]; rfl
      · rw [aft_torn]; exact H.out.torn.kp hk (noB1 H.out)
    · go_enter Tryz.func119, Tryz.ntmps119
      go_wp2
      go_ret
      have hk : Kp [p] w ((w.setCell ⟨p, 2, none⟩ (.bool true)).setCell ⟨p, 3, none⟩ (.bool false)) := (Kp.setCell w ⟨p, 2, none⟩ _).and (Kp.setCell _ ⟨p, 3, none⟩ _)
      refine ⟨by simp [Dk.fails, HA.out, hn], ⟨cs, al, vt, H.out.other hk (noB1 H.out) (by simpa using H.out.ne1.symm) (by simpa using H.out.ne2.symm) ?_ (aft_lasts D) (aft_waits D) ?_ H.out.ok.aft⟩, hk⟩
      · rw [blk_setCell (blk_setCell H.out.own _ _), aft_fails HA.out (by omega)]; rfl
      · rw [aft_torn]; exact H.out.torn.kp hk (noB1 H.out)
end
end Go.Proofs.YtonkeialdfofcaaGreatDoor
