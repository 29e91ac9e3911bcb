/-
  A log that can be read and has no group since its last anchor but what stands in its map: home by home; what scriptorylaw19.New makes.
-/
import Derived.Test.YtonkeialdfofcaaGreatDoorAlive
namespace Go.Proofs.YtonkeialdfofcaaGreatDoor
open Go.RowKit Go

/-- A live log on a live disk: n homes, which read as f says. -/
structure LgS (w : World) (l n : Nat) (f : Nat → Bs) (p bl bm bm' : Nat) (D : Dk) (L : Lg) : Prop where
  dk : IsDk w p bl bm D
  lg : IsLg w l p bm' L
  ne : bm ≠ bm'
  dead : D.dead = false
  may : L.may D = 0
  homes : L.homes D = n
  hm : ∀ i, i < n → L.hm D i = f i
  len : ∀ i, i < n → (f i).length = 248
  ml : ∀ b, some b ∈ L.m → b.length = 248
  pos : 0 < n
  hi : n ≤ 1900

section
variable {w : World} {l n p bl bm bm' : Nat} {f : Nat → Bs} {D : Dk} {L : Lg}

theorem LgS.kp0 {w' : World} (h : LgS w l n f p bl bm bm' D L) (k : Kp [] w w') : LgS w' l n f p bl bm bm' D L :=
  ⟨h.dk.kp0 k, h.lg.kp0 k, h.ne, h.dead, h.may, h.homes, h.hm, h.len, h.ml, h.pos, h.hi⟩
theorem LgS.kpl {w' : World} (h : LgS w l n f p bl bm bm' D L) (k : Kp [l] w w') (hl : IsLg w' l p bm' L) : LgS w' l n f p bl bm bm' D L :=
  ⟨h.dk.kpl h.lg k, hl, h.ne, h.dead, h.may, h.homes, h.hm, h.len, h.ml, h.pos, h.hi⟩
theorem LgS.noB1 (h : LgS w l n f p bl bm bm' D L) : NoB w [l] := h.lg.noB1
theorem LgS.own (h : LgS w l n f p bl bm bm' D L) : ∃ cs, w.heap[l]? = some (.cells cs 118 (0, 0)) := by
  obtain ⟨al, hl⟩ := h.lg
  exact ⟨_, hl.own⟩
/-- A block that is none of the log's may turn. -/
theorem LgS.kp {S : List Nat} {w' : World} (h : LgS w l n f p bl bm bm' D L) (k : Kp S w w') (hn : NoB w S) (h1 : ∀ x ∈ S, x ≠ l ∧ x ≠ p ∧ x ≠ bl ∧ x ≠ bm ∧ x ≠ bm') : LgS w' l n f p bl bm bm' D L :=
  ⟨h.dk.kp k hn (fun c => (h1 _ c).2.1 rfl) (fun c => (h1 _ c).2.2.1 rfl) (fun c => (h1 _ c).2.2.2.1 rfl), h.lg.kp k hn (fun c => (h1 _ c).1 rfl) (fun c => (h1 _ c).2.2.2.2 rfl), h.ne, h.dead, h.may, h.homes, h.hm, h.len, h.ml, h.pos, h.hi⟩

theorem lgs_read (i : Nat) (h : LgS w l n f p bl bm bm' D L) (hi : i < n) :
    Calls Tryz.prog 22 #[.pointer (some ⟨l, 0, none⟩), .int .i64 i] w fun e w' => ∃ v, e = .returned (.tuple #[v, .int .i64 0]) ∧ OwnS w' w.heap.size v (f i) ∧ LgS w' l n f p bl bm bm' D L ∧ Kp [l] w w' := by
  refine (lg_Read_ok i h.lg h.dk h.may h.dead (by rw [h.homes]; omega) h.ml).mono fun e w' hp => ?_
  obtain ⟨v, he, ho, hl, hk⟩ := hp
  exact ⟨v, he, h.hm i hi ▸ ho, h.kpl hk hl, hk⟩

theorem lgs_read_arg (i : Int) (h : LgS w l n f p bl bm bm' D L) (hi : i < 0 ∨ n ≤ i) :
    Calls Tryz.prog 22 #[.pointer (some ⟨l, 0, none⟩), .int .i64 i] w fun e w' => e = .returned (.tuple #[.slice none 0 0, .int .i64 1]) ∧ Kp [] w w' :=
  lg_Read_arg i h.lg h.dk h.may (by rw [h.homes]; exact hi)

theorem lgs_homes (h : LgS w l n f p bl bm bm' D L) :
    Calls Tryz.prog 40 #[.pointer (some ⟨l, 0, none⟩)] w fun r w' => r = .returned (.int .i64 n) ∧ ∃ k, w' = w.drewN k := by
  have := lg_Homes h.lg h.dk
  rw [h.homes] at this
  exact this

/-- The two numbers of a log of scriptorylaw19.New. -/
def newL (n : Nat) : Lg := ⟨0, false, 1, 1, 0, 24, 24, List.replicate (n - 26) none⟩

set_option maxHeartbeats 1000000 in
theorem law19_new (n : Nat) (w : World) (h1 : 34 ≤ n) (h2 : n ≤ 1900) :
    Calls Tryz.prog 43 #[.int .i64 n] w fun e w' => ∃ p bl bm l bm' D, e = .returned (.tuple #[.pointer (some ⟨p, 0, none⟩), .pointer (some ⟨l, 0, none⟩)]) ∧ IsDk w' p bl bm D ∧ Al D n 0 (fmtF 24) ∧ IsLg w' l p bm' (newL n) ∧ bm ≠ bm' ∧ w.heap.size ≤ l ∧ Kp [] w w' := by
  have H := Lib.hid (dk_new n w (by omega) h2)
  have h0 : Al ⟨List.replicate n (zeros 256), List.replicate n none, false, false, 0, 0, -1, [], 0, 0⟩ n 0 (fun _ => zeros 256) := by
    refine ⟨rfl, rfl, by simp, by simp, rfl, fun j hj => ?_⟩
    simp [Dk.sec, List.getD, hj]
  obtain ⟨f1, f2⟩ := h0.format 24 (by omega)
  generalize hD0 : (⟨List.replicate n (zeros 256), List.replicate n none, false, false, 0, 0, -1, [], 0, 0⟩ : Dk) = D0 at *
  generalize hR : fmtR 6 24 D0 = R at *
  have HR := Lib.hid hR
  have hlen : D0.len = n := by rw [← hD0]; simp [Dk.len]
  have HLn := Lib.hid hlen
  have HF1 := Lib.hid f1
  have HF2 := Lib.hid f2
  obtain ⟨o1, o2⟩ := f2.openL (n - 26) (by omega) (by omega) (by omega)
  have HO1 := Lib.hid o1
  have HO2 := Lib.hid o2
  clear h0 f1 f2 hD0 hR hlen o1 o2
  go_enter Tryz.func43, Tryz.ntmps43
  go_wp2_with (first
    | (go_at_call 16; refine H.out.mono ?_; rintro e w1 ⟨p, bl, bm, rfl, hd1, hp1, hbl1, hbm1, hk1⟩; have HD1 := Lib.hid hd1; have HK1 := Lib.hid hk1; clear hd1 hk1)
    | (go_at_call 17; refine (fmt_go p bl bm D0 24 _ HD1.out (by omega) (by omega) (by rw [HLn.out]; omega)).mono ?_; rintro e w2 ⟨rfl, bm2, hd2, hbm2, hk2⟩; rw [HR.out] at hd2 ⊢; rw [HF1.out]; have HD2 := Lib.hid hd2; have HK2 := Lib.hid hk2; clear hd2 hk2)
    | (go_at_call 18; refine (open_fresh (n - 26) p bl bm2 R.2 _ HD2.out HF2.out.dead (by rw [HO1.out]; simp) (by rw [HO1.out]; simp) (by rw [HO1.out]; have := HF2.out.len; simp [Dk.len]; omega) (by rw [HO1.out]; simp) (by rw [HO2.out]; omega)).mono ?_; rintro e w3 ⟨l, bm3, rfl, hl3, hb3, hlg, hk3⟩; have HLG := Lib.hid hlg; have HK3 := Lib.hid hk3; clear hlg hk3))
  go_ret2
  have hlt : bm2 < w2.heap.size := by obtain ⟨cs, al, vt, h⟩ := HD2.out; exact h.mp.lt
  have hwl : w.heap.size ≤ l := by have := HK1.out.size; have := HK2.out.size; omega
  have hk12 : Kp [] w w2 := HK1.out.trans HK2.out (fun x hx => .inr (by simp at hx; omega))
  exact ⟨p, bl, bm2, l, bm3, R.2, rfl, HD2.out.kp0 HK3.out, HF2.out, (by have := HLG.out; rw [HO1.out] at this; exact this), by omega, hwl, hk12.and HK3.out⟩

/-- The log of scriptorylaw19.New: n - 26 homes of noughts. -/
theorem new_lgs (hd : IsDk w p bl bm D) (ha : Al D n 0 (fmtF 24)) (hl : IsLg w l p bm' (newL n)) (hne : bm ≠ bm') (h1 : 34 ≤ n) (h2 : n ≤ 1900) : LgS w l (n - 26) (fun _ => zeros 248) p bl bm bm' D (newL n) := by
  refine ⟨hd, hl, hne, ha.dead, ?_, ?_, fun i hi => ?_, fun i _ => length_zeros 248, fun b hb => ?_, by omega, by omega⟩
  · unfold Lg.may newL; rw [ha.lives]; simp
  · unfold Lg.homes newL Dk.len; rw [ha.len]; simp; omega
  · have h0 : (newL n).m.getD i none = none := by
      unfold newL
      simp [List.getD, List.getElem?_replicate]
      split <;> rfl
    unfold Lg.hm
    rw [h0]
    show (D.sec (2 + 24 + i)).drop 8 = _
    rw [ha.sec _ (by omega)]
    unfold fmtF
    rw [if_neg (by omega)]
    unfold zeros
    rw [List.drop_replicate]
  · exact absurd (List.mem_replicate.1 hb).2 (by simp)
end
end Go.Proofs.YtonkeialdfofcaaGreatDoor
