/-
  A disk that is not armed: what Format and Open make of it. Plain data.
-/
import Derived.Test.YtonkeialdfofcaaGreatDoorFmt3
import Derived.Test.YtonkeialdfofcaaGreatDoorOpen
namespace Go.Proofs.YtonkeialdfofcaaGreatDoor
open Go.RowKit Go

/-- A disk that is on and not armed, of n sectors; f: what they read as. -/
structure Al (D : Dk) (n : Nat) (lv : Int) (f : Nat → Bs) : Prop where
  dead : D.dead = false
  armed : D.armed = false
  len : D.lasts.length = n
  wl : D.waits.length = n
  lives : D.lives = lv
  sec : ∀ j, j < n → D.sec j = f j

theorem Al.congr {D : Dk} {n : Nat} {lv : Int} {f g : Nat → Bs} (h : Al D n lv f) (e : ∀ j, j < n → f j = g j) : Al D n lv g :=
  ⟨h.dead, h.armed, h.len, h.wl, h.lives, fun j hj => (h.sec j hj).trans (e j hj)⟩

theorem Al.may {D : Dk} {n : Nat} {lv : Int} {f : Nat → Bs} (h : Al D n lv f) {i : Nat} (hi : i < n) : D.may i = 0 := by
  unfold Dk.may Dk.len
  rw [h.dead, if_neg (by simp), h.len, if_neg (by omega)]
theorem Al.fails {D : Dk} {n : Nat} {lv : Int} {f : Nat → Bs} (h : Al D n lv f) : D.fails = false := by unfold Dk.fails; rw [h.armed]; rfl

theorem Al.write {D : Dk} {n : Nat} {lv : Int} {f : Nat → Bs} (h : Al D n lv f) {i : Nat} (hi : i < n) {b : Bs} (hb : b.length = 256) :
    (D.write i b).1 = 0 ∧ Al (D.write i b).2 n lv (fun j => if j = i then b else f j) := by
  rw [write_goes (h.may hi) hb h.fails, aft_not h.armed]
  refine ⟨rfl, h.dead, h.armed, h.len, by simp [h.wl], h.lives, fun j hj => ?_⟩
  have hs := h.sec j hj
  unfold Dk.sec at hs ⊢
  simp only [Int.toNat_natCast]
  by_cases e : j = i
  · subst e
    simp [List.getD, h.wl, hj]
  · have : (D.waits.set i (some b)).getD j none = D.waits.getD j none := by simp [List.getD, List.getElem?_set_ne (Ne.symm e)]
    rw [this, if_neg e]
    exact hs

theorem Al.flush {D : Dk} {n : Nat} {lv : Int} {f : Nat → Bs} (h : Al D n lv f) : D.flush.1 = 0 ∧ Al D.flush.2 n lv f := by
  have e : D.flush = (0, { D.aft with lasts := D.secs, waits := List.replicate D.len none }) := by unfold Dk.flush; rw [if_neg (by simp [h.dead]), if_neg (by simp [h.fails])]
  rw [e, aft_not h.armed]
  refine ⟨rfl, h.dead, h.armed, ?_, ?_, h.lives, fun j hj => ?_⟩
  · show D.secs.length = n; rw [secs_len, h.len]
  · show (List.replicate D.len none).length = n; simp [Dk.len, h.len]
  · unfold Dk.sec
    have h1 : (List.replicate D.len (none : Option Bs)).getD j none = none := by
      simp [List.getD, List.getElem?_replicate]
      split <;> rfl
    have h2 : D.secs.getD j [] = D.sec j := by
      have hj' : j < D.secs.length := by rw [secs_len, h.len]; exact hj
      simp only [List.getD, List.getElem?_eq_getElem hj', Option.getD_some]
      exact secs_get D j hj'
    show (match (List.replicate D.len (none : Option Bs)).getD j none with | some b => b | none => D.secs.getD j []) = f j
    rw [h1, h2]
    exact h.sec j hj

theorem Al.fill {n : Nat} {lv : Int} {b : Bs} (hb : b.length = 256) : ∀ (k i : Nat) {D : Dk} {f : Nat → Bs}, Al D n lv f → i + k ≤ n →
    (fillD k D i b).1 = 0 ∧ Al (fillD k D i b).2 n lv (fun j => if i ≤ j ∧ j < i + k then b else f j)
  | 0, i, D, f, h, _ => ⟨rfl, h.congr fun j _ => by rw [if_neg (by omega)]⟩
  | k + 1, i, D, f, h, hk => by
    obtain ⟨h1, h2⟩ := h.write (i := i) (by omega) hb
    obtain ⟨g1, g2⟩ := Al.fill hb k (i + 1) h2 (by omega)
    have e : fillD (k + 1) D i b = fillD k (D.write i b).2 ((i + 1 : Nat) : Int) b := by rw [fillD, if_pos h1]; rfl
    rw [e]
    refine ⟨g1, g2.congr fun j _ => ?_⟩
    by_cases c1 : i + 1 ≤ j ∧ j < i + 1 + k
    · rw [if_pos c1, if_pos (by omega)]
    · rw [if_neg c1]
      by_cases c2 : j = i
      · rw [if_pos c2, if_pos (by omega)]
      · rw [if_neg c2, if_neg (by omega)]

/-- What a disk's sectors read as behind Format. -/
def fmtF (ring j : Nat) : Bs := if j = 1 then anchorB 1 1 0 ring else zeros 256
theorem length_zeros (n : Nat) : (zeros n).length = n := List.length_replicate

theorem Al.format {D : Dk} {n : Nat} {lv : Int} {f : Nat → Bs} (h : Al D n lv f) (ring : Nat) (hn : 2 ≤ n) : (fmtR 6 ring D).1 = 0 ∧ Al (fmtR 6 ring D).2 n lv (fmtF ring) := by
  obtain ⟨a0, h0⟩ : (fillD 2 D 0 (zeros 256)).1 = 0 ∧ Al (fillD 2 D 0 (zeros 256)).2 n lv _ := Al.fill (length_zeros 256) 2 0 h (by omega)
  obtain ⟨a1, h1⟩ := h0.flush
  obtain ⟨a2, h2⟩ : (fillD (n - 2) (fillD 2 D 0 (zeros 256)).2.flush.2 2 (zeros 256)).1 = 0 ∧ Al (fillD (n - 2) (fillD 2 D 0 (zeros 256)).2.flush.2 2 (zeros 256)).2 n lv _ := Al.fill (length_zeros 256) (n - 2) 2 h1 (by omega)
  obtain ⟨a3, h3⟩ := h2.flush
  obtain ⟨a4, h4⟩ : ((fillD (n - 2) (fillD 2 D 0 (zeros 256)).2.flush.2 2 (zeros 256)).2.flush.2.write 1 (anchorB 1 1 0 ring)).1 = 0 ∧ Al ((fillD (n - 2) (fillD 2 D 0 (zeros 256)).2.flush.2 2 (zeros 256)).2.flush.2.write 1 (anchorB 1 1 0 ring)).2 n lv _ := h3.write (i := 1) (by omega) (length_anchorB 1 1 0 ring)
  obtain ⟨a5, h5⟩ := h4.flush
  have l2 : (fillD 2 D 0 (zeros 256)).2.flush.2.len - 2 = n - 2 := by unfold Dk.len; rw [h1.len]
  have e0 : fmtS (5 - 5) ring D = fillD 2 D 0 (zeros 256) := rfl
  have e1 : ∀ X, fmtS (5 - 4) ring X = X.flush := fun _ => rfl
  have e2 : ∀ X, fmtS (5 - 3) ring X = fillD (X.len - 2) X 2 (zeros 256) := fun _ => rfl
  have e3 : ∀ X, fmtS (5 - 2) ring X = X.flush := fun _ => rfl
  have e4 : ∀ X, fmtS (5 - 1) ring X = X.write 1 (anchorB 1 1 0 ring) := fun _ => rfl
  have e5 : ∀ X, fmtS (5 - 0) ring X = X.flush := fun _ => rfl
  have E : fmtR 6 ring D = (0, ((fillD (n - 2) (fillD 2 D 0 (zeros 256)).2.flush.2 2 (zeros 256)).2.flush.2.write 1 (anchorB 1 1 0 ring)).2.flush.2) := by
    simp only [fmtR]
    rw [e0, if_pos a0, e1, if_pos a1, e2, l2, if_pos a2, e3, if_pos a3, e4, if_pos a4, e5, if_pos a5]
  rw [E]
  refine ⟨rfl, h5.congr fun j hj => ?_⟩
  unfold fmtF
  by_cases c : j = 1
  · rw [if_pos c, if_pos c]
  · rw [if_neg c, if_neg c]
    by_cases c2 : 2 ≤ j
    · rw [if_pos (by omega)]
    · rw [if_neg (by omega), if_pos (by omega)]

theorem drop_app {a b : Bs} {k : Nat} (h : a.length = k) : (a ++ b).drop k = b := by rw [← h]; exact List.drop_left
theorem take_app {a b : Bs} {k : Nat} (h : a.length = k) : (a ++ b).take k = a := by rw [← h]; exact List.take_left

theorem numAt_put {bs : Bs} (pre post : Bs) (n v k : Nat) (hb : bs = pre ++ (putN n v ++ post)) (hk : pre.length = k) (hv : v < 256 ^ n) : numAt bs k n = v := by
  subst hb
  unfold numAt
  rw [drop_app hk, take_app (length_putN n v), takeN_putN n v hv]

/-- The numbers of an anchor's sector. -/
theorem anchor_nums (s t p r : Nat) (hs : s < 256 ^ 8) (ht : t < 256 ^ 8) (hp : p < 256 ^ 4) (hr : r < 256 ^ 4) :
    numAt (anchorB s t p r) 0 8 = s ∧ numAt (anchorB s t p r) 8 8 = t ∧ numAt (anchorB s t p r) 16 4 = p ∧ numAt (anchorB s t p r) 20 4 = r ∧ numAt (anchorB s t p r) 248 8 = s := by
  have z : (zeros 224).length = 224 := length_zeros 224
  refine ⟨?_, ?_, ?_, ?_, ?_⟩
  · exact numAt_put [] (putN 8 t ++ putN 4 p ++ putN 4 r ++ zeros 224 ++ putN 8 s) 8 s 0 (by simp only [anchorB, List.append_assoc, List.nil_append]) rfl hs
  · exact numAt_put (putN 8 s) (putN 4 p ++ putN 4 r ++ zeros 224 ++ putN 8 s) 8 t 8 (by simp only [anchorB, List.append_assoc]) (length_putN _ _) ht
  · exact numAt_put (putN 8 s ++ putN 8 t) (putN 4 r ++ zeros 224 ++ putN 8 s) 4 p 16 (by simp only [anchorB, List.append_assoc]) (by simp [length_putN]) hp
  · exact numAt_put (putN 8 s ++ putN 8 t ++ putN 4 p) (zeros 224 ++ putN 8 s) 4 r 20 (by simp only [anchorB, List.append_assoc]) (by simp [length_putN]) hr
  · exact numAt_put (putN 8 s ++ putN 8 t ++ putN 4 p ++ putN 4 r ++ zeros 224) [] 8 s 248 (by simp only [anchorB, List.append_assoc, List.append_nil]) (by simp only [List.length_append, length_putN, z]) hs

theorem takeN_zeros (n : Nat) : takeN (zeros n) = 0 := by
  induction n with
  | zero => rfl
  | succ n ih => show (0 : UInt8).toNat + 256 * takeN (zeros n) = 0; rw [ih]; rfl
theorem numAt_zeros (m a n : Nat) : numAt (zeros m) a n = 0 := by
  unfold numAt zeros
  rw [List.drop_replicate, List.take_replicate]
  exact takeN_zeros _

/-- The log that Open makes of a formatted disk. -/
theorem Al.openL {D : Dk} {n : Nat} {lv : Int} {ring : Nat} (h : Al D n lv (fmtF ring)) (m : Nat) (h1 : 8 ≤ ring) (h2 : ring ≤ 512) (h3 : ring + 10 ≤ n) :
    openL D m = ⟨lv, false, 1, 1, 0, ring, ring, List.replicate m none⟩ ∧ numAt ((openL D m).markSec D) 0 8 = 0 := by
  have s0 : D.sec 0 = zeros 256 := by rw [h.sec 0 (by omega)]; rfl
  have s1 : D.sec 1 = anchorB 1 1 0 ring := by rw [h.sec 1 (by omega)]; rfl
  have s2 : D.sec 2 = zeros 256 := by rw [h.sec 2 (by omega)]; rfl
  have hl : D.len = n := h.len
  have n0 : standsB (D.sec 0) D.len = false := by unfold standsB; rw [s0, numAt_zeros]; rfl
  obtain ⟨q1, q2, q3, q4, q5⟩ := anchor_nums 1 1 0 ring (by decide) (by decide) (by decide) (by omega)
  have n1 : standsB (D.sec 1) D.len = true := by
    unfold standsB
    rw [s1, q1, q2, q3, q4, q5, hl]
    simp; omega
  have e : Go.Proofs.YtonkeialdfofcaaGreatDoor.openL D m = ⟨lv, false, 1, 1, 0, ring, ring, List.replicate m none⟩ := by
    have f0 : findS D ⟨D.lives, false, 0, 0, 0, 0, 0, List.replicate m none⟩ 0 = ⟨D.lives, false, 0, 0, 0, 0, 0, List.replicate m none⟩ := by
      unfold findS; rw [n0]; simp
    have f1 : findS D ⟨D.lives, false, 0, 0, 0, 0, 0, List.replicate m none⟩ 1 = ⟨D.lives, false, 1, 1, 0, ring, 0, List.replicate m none⟩ := by
      unfold findS; rw [n1, s1, q1, q2, q3, q4]; simp
    unfold Go.Proofs.YtonkeialdfofcaaGreatDoor.openL findL
    rw [f0, f1, h.lives]
  refine ⟨e, ?_⟩
  rw [e]
  show numAt (D.sec (2 + 0 % ring)) 0 8 = 0
  rw [Nat.zero_mod, s2, numAt_zeros]
end Go.Proofs.YtonkeialdfofcaaGreatDoor
