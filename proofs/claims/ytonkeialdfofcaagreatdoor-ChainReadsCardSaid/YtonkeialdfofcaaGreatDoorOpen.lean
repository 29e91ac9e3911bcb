/-
  Opening a log whose ring holds no group of the next turn: mark, group, takes, opens, Open.
-/
import Derived.Test.YtonkeialdfofcaaGreatDoorFind
import Derived.Maps.OwnSet
namespace Go.Proofs.YtonkeialdfofcaaGreatDoor
open Go.RowKit Go

section
variable {w : World} {l p bl bm bm' : Nat} {L : Lg} {D : Dk} {al : List (Int × Value)}

/-- What stands where the next group's mark would stand. -/
def Lg.markSec (L : Lg) (D : Dk) : Bs := D.sec (2 + L.place % L.ring)

set_option maxRecDepth 20000 in
set_option maxHeartbeats 4000000 in
theorem mark_none (h : IsLg w l p bm' L) (hd : IsDk w p bl bm D) (hdead : D.dead = false) (hr : 1 ≤ L.ring) (hr2 : L.ring + 10 ≤ D.len) (hT : L.turn ≤ 4611686018427387903) (hno : numAt (L.markSec D) 0 8 ≠ 2 * L.turn + 1) :
    Calls Tryz.prog 165 #[.pointer (some ⟨l, 0, none⟩)] w fun e w' => e = .returned (.tuple #[.slice none 0 0, .nilIface]) ∧ IsLg w' l p bm' L ∧ Kp [l] w w' := by
  have hmod : L.place % L.ring < L.ring := Nat.mod_lt _ (by omega)
  have hsec : 2 + L.place % L.ring < D.lasts.length := by have : D.len = D.lasts.length := rfl; omega
  have hmay : D.may ((2 + L.place % L.ring : Nat) : Int) = 0 := by unfold Dk.may Dk.len; rw [hdead, if_neg (by simp), if_neg (by omega)]
  have hsl : (L.markSec D).length = 256 := sec_len hd.ok _ hsec
  have HL := Lib.hid h
  have HD := Lib.hid hd
  have HMY := Lib.hid hmay
  have HSL := Lib.hid hsl
  obtain ⟨al, hl⟩ := h
  have c4 := cell_of hl.own 4 (v := .int .u64 L.turn) rfl
  have c5 := cell_of hl.own 5 (v := .int .i64 L.place) rfl
  have hph := hl.phi
  have hmk : D.sec (2 + L.place % L.ring) = L.markSec D := rfl
  have HMK := Lib.hid hmk
  have hn : ((numAt (L.markSec D) 0 8 : Int) != 2 * (L.turn : Int) + 1) = true := by rw [bne_iff_ne]; omega
  generalize hX : L.markSec D = X at *
  generalize hI : 2 + L.place % L.ring = I at *
  have hb2 := numAt_lt X 8 2
  clear hl hd hdead hmay hsl hmk hX hno
  have HI := Lib.hid hI
  clear hI
  go_enter Tryz.func165, Tryz.ntmps165
  go_wp2_with (first
    | (go_at_call 130; refine (lg_at HL.out L.place (by omega) hr).mono ?_; rintro e w' ⟨rfl, rfl⟩; rw [HI.out])
    | (go_at_call 84; refine (lg_read l p bl bm bm' L D I _ HL.out HD.out).mono ?_; rintro e w1 ⟨v1, v2, rfl, he, ho, hl1, hk1⟩; rw [HMY.out] at he ho hl1; rw [did0] at hl1; obtain rfl := he.zero; have ho' := ho rfl; rw [Int.toNat_natCast, HMK.out] at ho'; obtain ⟨a1, n1, cp1, rfl⟩ := ho'.bytes.shape; have c4' : w1.cell? ⟨l, 4, none⟩ = some (.int .u64 L.turn) := (by obtain ⟨al, h⟩ := hl1; exact cell_of h.own 4 rfl); have HL1 := Lib.hid hl1; have HO1 := Lib.hid ho'; clear ho ho' he hl1)
    | (go_at_call 164; refine (lg_num 2 8 _ X _ HO1.out.bytes (by simp) (by rw [HSL.out]; decide) (by rw [HSL.out]; decide)).mono ?_; rintro e w' ⟨rfl, rfl⟩)
    | (go_at_call 163; refine (lg_tag _ X _ HO1.out.bytes (by rw [HSL.out]; decide) (by rw [HSL.out]; decide)).mono ?_; rintro e w' ⟨rfl, rfl⟩))
  go_ret2
  exact ⟨rfl, HL1.out, hk1⟩

set_option maxHeartbeats 1000000 in
theorem group_none (h : IsLg w l p bm' L) (hd : IsDk w p bl bm D) (hdead : D.dead = false) (hr : 1 ≤ L.ring) (hr2 : L.ring + 10 ≤ D.len) (hT : L.turn ≤ 4611686018427387903) (hno : numAt (L.markSec D) 0 8 ≠ 2 * L.turn + 1) :
    Calls Tryz.prog 152 #[.pointer (some ⟨l, 0, none⟩)] w fun e w' => e = .returned (.tuple #[.map none, .nilIface]) ∧ IsLg w' l p bm' L ∧ Kp [l] w w' := by
  have H := Lib.hid (mark_none h hd hdead hr hr2 hT hno)
  clear h hd hdead hr hr2 hT hno
  go_enter Tryz.func152, Tryz.ntmps152
  go_wp2_with (go_at_call 165; refine H.out.mono ?_; rintro e w1 ⟨rfl, hl1, hk1⟩)
  go_ret2
  exact ⟨rfl, hl1, hk1⟩

theorem within_nil (w : World) : Calls Tryz.prog 122 #[.nilIface] w fun e w' => e = .returned .nilIface ∧ w = w' := by
  go_enter Tryz.func122, Tryz.ntmps122
  go_wp2
  go_ret
  exact ⟨rfl, rfl⟩

set_option maxHeartbeats 1000000 in
theorem takes_none (h : IsLg w l p bm' L) (hd : IsDk w p bl bm D) (hdead : D.dead = false) (hr : 1 ≤ L.ring) (hr2 : L.ring + 10 ≤ D.len) (hT : L.turn ≤ 4611686018427387903) (hno : numAt (L.markSec D) 0 8 ≠ 2 * L.turn + 1) :
    Calls Tryz.prog 123 #[.pointer (some ⟨l, 0, none⟩)] w fun e w' => e = .returned .nilIface ∧ IsLg w' l p bm' L ∧ Kp [l] w w' := by
  have H := Lib.hid (group_none h hd hdead hr hr2 hT hno)
  clear h hd hdead hr hr2 hT hno
  go_enter Tryz.func123, Tryz.ntmps123
  go_wp2
  refine wp_loop_rounds 1 ?_
  rw [rounds_succ]
  go_wp2_with (first
    | (go_at_call 152; refine H.out.mono ?_; rintro e w1 ⟨rfl, hl1, hk1⟩)
    | (go_at_call 122; refine (within_nil _).mono ?_; rintro e w' ⟨rfl, rfl⟩))
  go_ret
  exact ⟨rfl, hl1, hk1⟩

theorem run_len_map {w : World} {b : Nat} {l : List (Int × Value)} (h : MapB w b l) (ty : TypeId) : (Builtin.len_ #[109] ty #[.map (some b)]).run Tryz.prog w = .ok (.int .i64 l.length) w := by
  have h' := h
  obtain ⟨es, c, h1, _⟩ := h
  have := h'.size h1
  simp [Builtin.len_, run_underlying Tryz.underlying109, run_getObj_map h1, Sem.run_bind, Result.andThen, this, goInt]

theorem wpList_len_map {w : World} {ops : Array Oper} {rest : List Oper} {o : Oper} {a : Act} {Q : Exit → Act → World → Prop} (hg : o.guard = none) (m : Operand)
    (ho : o.op = .call { callee := .builtin .len, args := #[m], argTypes := #[109] }) {b : Nat} {l : List (Int × Value)} (hm : a.eval m = .map (some b)) (hB : MapB w b l)
    (h : wpList Tryz.prog ops Q rest (a.put o.dst (.int .i64 l.length)) w) : wpList Tryz.prog ops Q (o :: rest) a w := by
  refine wpList_plain hg fun _ hK => ?_
  have hr := run_len_map hB o.type
  unfold Oper.wp execOp
  simp only [ho, resolve, invoke, builtin, Sem.run_bind, Sem.run_pure, Result.andThen_ok, List.map_toArray, List.map_cons, List.map_nil, hm, hr]
  exact hK _ _ h

set_option maxRecDepth 20000 in
set_option maxHeartbeats 2000000 in
/-- 'opens', where an anchor stands and no group does. -/
theorem opens_fresh (h : LgAt w l p bm' L []) (hd : IsDk w p bl bm D) (hdead : D.dead = false) (hs : (findL D L).s ≠ 0) (hr : 1 ≤ (findL D L).ring) (hr2 : (findL D L).ring + 10 ≤ D.len) (hT : (findL D L).turn ≤ 4611686018427387903) (hno : numAt ((findL D L).markSec D) 0 8 ≠ 2 * (findL D L).turn + 1) :
    Calls Tryz.prog 77 #[.pointer (some ⟨l, 0, none⟩)] w fun e w' => e = .returned .nilIface ∧ IsLg w' l p bm' { findL D L with free := (findL D L).ring } ∧ Kp [l] w w' := by
  have H1 := Lib.hid (find_ok l p bl bm bm' L D w ⟨[], h⟩ hd hdead)
  have HD := Lib.hid hd
  have HL := Lib.hid h
  have HDD := Lib.hid hdead
  have HS := Lib.hid hs
  have HR := Lib.hid hr
  have HR2 := Lib.hid hr2
  have HT := Lib.hid hT
  have HN := Lib.hid hno
  clear h hd hdead hs hr hr2 hT hno
  generalize hF : findL D L = F at *
  go_enter Tryz.func77, Tryz.ntmps77
  go_wp2_with (first
    | (go_at_call 121; refine H1.out.mono ?_; rintro e w1 ⟨v1, rfl, he, hl1, hk1⟩; rw [if_neg HS.out] at he; obtain rfl := he.zero; have HL1 := Lib.hid hl1; have HD1 := Lib.hid (HD.out.kpl ⟨[], HL.out⟩ hk1); have HK1 := Lib.hid hk1; clear he hl1 hk1)
    | (go_at_call 123; refine (takes_none HL1.out HD1.out HDD.out HR.out HR2.out HT.out HN.out).mono ?_; rintro e w2 ⟨rfl, ⟨al, hl2⟩, hk2⟩; have c8 := cell_of hl2.own 8 (v := .map (some bm')) rfl; have c6 := cell_of hl2.own 6 (v := .int .i64 F.ring) rfl; have c7 := cell_of hl2.own 7 (v := .int .i64 F.free) rfl; have f7 := free_of hl2.own 7; have HMP := Lib.hid (show MapB w2 bm' [] from HL.out.mp.kp (HK1.out.and hk2) (by simpa using HL.out.ne.symm)); have HL2 := Lib.hid hl2; clear hl2)
    | (at_len; refine wpList_len_map rfl _ rfl rfl HMP.out ?_))
  go_ret
  have hk3 := Kp.setCell w2 ⟨l, 7, none⟩ (.int .i64 F.ring)
  refine ⟨rfl, ⟨al, ⟨?_, HL2.out.mp.kp hk3 (by simpa using HL2.out.ne.symm), HL2.out.opts.kp hk3 HL2.out.noB1, HL2.out.slt, HL2.out.tlt, HL2.out.rhi, HL2.out.phi⟩⟩, (HK1.out.and hk2).and hk3⟩
  rw [blk_setCell HL2.out.own]
  rfl

/-- A disk on which a new log stands: one anchor, no group, the ring's first sector without a mark. -/
def openL (D : Dk) (m : Nat) : Lg := { findL D ⟨D.lives, false, 0, 0, 0, 0, 0, List.replicate m none⟩ with free := (findL D ⟨D.lives, false, 0, 0, 0, 0, 0, List.replicate m none⟩).ring }

set_option maxRecDepth 20000 in
set_option maxHeartbeats 2000000 in
theorem open_fresh (m : Nat) (p bl bm : Nat) (D : Dk) (w : World) (hd : IsDk w p bl bm D) (hdead : D.dead = false) (hs : (openL D m).s ≠ 0) (hr : 1 ≤ (openL D m).ring) (hr2 : (openL D m).ring + 10 ≤ D.len) (hT : (openL D m).turn ≤ 4611686018427387903) (hno : numAt ((openL D m).markSec D) 0 8 ≠ 2 * (openL D m).turn + 1) :
    Calls Tryz.prog 18 #[.pointer (some ⟨p, 0, none⟩)] w fun e w' => ∃ l bm', e = .returned (.tuple #[.pointer (some ⟨l, 0, none⟩), .int .i64 0]) ∧ w.heap.size ≤ l ∧ w.heap.size ≤ bm' ∧ IsLg w' l p bm' (openL D m) ∧ Kp [] w w' := by
  have HD := Lib.hid hd
  have hlo := hd.ok.lo
  have hL : ((D.len : Int) == 0) = false := beq_eq_false_iff_ne.2 (by unfold Dk.len; omega)
  have hmm := @run_makeMap Tryz.prog
  have HX := Lib.hid (And.intro hdead (And.intro hs (And.intro hr (And.intro hr2 (And.intro hT hno)))))
  clear hd hdead hs hr hr2 hT hno
  go_enter Tryz.func18, Tryz.ntmps18
  go_wp2_with (first
    | (go_at_call 68; refine (dk_len p bl bm D _ HD.out).mono ?_; rintro e w' ⟨rfl, rfl⟩)
    | (go_at_call 76; refine (dk_lives p bl bm D _ HD.out).mono ?_; rintro e w' ⟨rfl, rfl⟩))
  have hp : p < w.heap.size := by obtain ⟨cs, al, vt, h⟩ := HD.out; exact lt_of_blk h.own
  have hb1 := (Kp.alloc w (.map #[] 0)).and (Kp.alloc _ (.cells #[.pointer (some ⟨p, 0, none⟩), .int .i64 D.lives, .bool false, .int .u64 0, .int .u64 0, .int .i64 0, .int .i64 0, .int .i64 0, .map (some w.heap.size)] 118))
  have hbl : ((w.alloc (.map #[] 0)).alloc (.cells #[.pointer (some ⟨p, 0, none⟩), .int .i64 D.lives, .bool false, .int .u64 0, .int .u64 0, .int .i64 0, .int .i64 0, .int .i64 0, .map (some w.heap.size)] 118)).heap[w.heap.size + 1]? = some (.cells #[.pointer (some ⟨p, 0, none⟩), .int .i64 D.lives, .bool false, .int .u64 0, .int .u64 0, .int .i64 0, .int .i64 0, .int .i64 0, .map (some w.heap.size)] 118 (0, 0)) := heap_alloc2_new _ _ _
  have hbm : MapB ((w.alloc (.map #[] 0)).alloc (.cells #[.pointer (some ⟨p, 0, none⟩), .int .i64 D.lives, .bool false, .int .u64 0, .int .u64 0, .int .i64 0, .int .i64 0, .int .i64 0, .map (some w.heap.size)] 118)) w.heap.size [] := (MapB.new w).kp (Kp.alloc _ _) (by simp)
  generalize (w.alloc (.map #[] 0)).alloc (.cells #[.pointer (some ⟨p, 0, none⟩), .int .i64 D.lives, .bool false, .int .u64 0, .int .u64 0, .int .i64 0, .int .i64 0, .int .i64 0, .map (some w.heap.size)] 118) = W at *
  have hla : LgAt W (w.heap.size + 1) p w.heap.size ⟨D.lives, false, 0, 0, 0, 0, 0, List.replicate m none⟩ [] :=
    ⟨hbl, hbm, ⟨fun i v hv => by simp [alook] at hv, fun j bs hj => by simp [List.getElem?_replicate] at hj⟩, by show 0 < 18446744073709551616; decide, by show 0 < 18446744073709551616; decide, by show 0 ≤ 1000000; decide, by show 0 ≤ 1000000000; decide⟩
  obtain ⟨hdead, hs, hr, hr2, hT, hno⟩ := HX.out
  have HO := Lib.hid (opens_fresh hla (HD.out.kp0 hb1) hdead hs hr hr2 hT hno)
  have HB1 := Lib.hid hb1
  clear hla hdead hs hr hr2 hT hno hb1 hbl hbm
  go_wp2_with (go_at_call 77; refine HO.out.mono ?_; rintro e w2 ⟨rfl, hl2, hk2⟩)
  go_ret2
  exact ⟨w.heap.size + 1, w.heap.size, rfl, by omega, Nat.le_refl _, hl2, HB1.out.trans hk2 (by simp)⟩
end
end Go.Proofs.YtonkeialdfofcaaGreatDoor
