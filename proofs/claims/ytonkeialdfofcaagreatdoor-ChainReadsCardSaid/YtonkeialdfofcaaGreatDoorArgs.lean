/-
  Rows that came in: bytes, rows of bytes; what they read as, whatever is made beside them.
-/
import Derived.Test.YtonkeialdfofcaaGreatDoorLaidOk
import Derived.Test.YtonkeialdfofcaaGreatDoorRefRead
import Derived.Test.YtonkeialdfofcaaGreatDoorChain2
import Derived.Laws.CopyOwn
import Derived.Laws.Tables
namespace Go.Proofs.YtonkeialdfofcaaGreatDoor
open Go.RowKit Go

/-- Bytes that came in. -/
def InB (w : World) (v : Value) (bs : Bs) : Prop :=
  ∃ a cap, v = .slice a bs.length cap ∧ (a = none → bs = []) ∧ ∀ ad, a = some ad → ∀ j u, (u8s bs)[j]? = some u → w.cell? (ad.add j) = some u
/-- A row of bytes that came in. -/
def InL (w : World) (v : Value) (ls : List Bs) : Prop :=
  ∃ a cap, v = .slice a ls.length cap ∧ (a = none → ls = []) ∧ ∀ ad, a = some ad → ∀ j b, ls[j]? = some b → ∃ u, w.cell? (ad.add j) = some u ∧ InB w u b
theorem InB.kp0 {w w' : World} {v : Value} {bs : Bs} (h : InB w v bs) (k : Kp [] w w') : InB w' v bs := by
  obtain ⟨a, cap, h1, h2, h3⟩ := h
  exact ⟨a, cap, h1, h2, fun ad e j u hu => k.acell (h3 ad e j u hu) (by simp)⟩
theorem InL.kp0 {w w' : World} {v : Value} {ls : List Bs} (h : InL w v ls) (k : Kp [] w w') : InL w' v ls := by
  obtain ⟨a, cap, h1, h2, h3⟩ := h
  refine ⟨a, cap, h1, h2, fun ad e j b hb => ?_⟩
  obtain ⟨u, g1, g2⟩ := h3 ad e j b hb
  exact ⟨u, k.acell g1 (by simp), g2.kp0 k⟩
theorem Kp.of_below {w w' : World} (h : Below w.heap.size w w') : Kp [] w w' := ⟨h.os, h.tape, h.output, h.size, fun k hk _ => h.block k hk⟩

/-- A row of n slices may turn where the transaction's disk has more sectors. -/
theorem TxSys.kpH {w w' : World} {t n hb : Nat} {H : Nat → Bs} {F : List Nat} {ch : Array Value} (h : TxSys w t n H F) (k : Kp [hb] w w') (hn : w.heap[hb]? = some (.cells ch 30 (0, 0))) (hs : ch.size = n) : TxSys w' t n H F := by
  obtain ⟨l, bmt, al, T, f, p, bl, bm, bm', D, L, h1, h2, h3, h4⟩ := h
  have nb : NoB w [hb] := NoB.cons hn (by simp) (NoB.nil w)
  obtain ⟨cs, ho⟩ := h3.own
  obtain ⟨es, c, hm, _⟩ := h2.mp
  obtain ⟨cs2, al2, vt2, hd⟩ := h3.dk
  obtain ⟨al3, hl⟩ := h3.lg
  obtain ⟨es4, c4, hm4, _⟩ := hd.mp
  obtain ⟨es5, c5, hm5, _⟩ := hl.mp
  have a0 := h2.own
  have a4 := hd.own
  have hrow := hd.row.2.1
  have hhm := h3.homes
  refine ⟨l, bmt, al, T, f, p, bl, bm, bm', D, L, h1, h2.kp k nb ?_ ?_, h3.kp k nb (fun x hx => ?_), h4⟩
  · intro c; simp at c; subst c; rw [hn] at a0; simp at a0
  · intro c; simp at c; subst c; rw [hn] at hm; simp at hm
  · simp at hx
    subst hx
    refine ⟨?_, ?_, ?_, ?_, ?_⟩
    · rintro rfl; rw [hn] at ho; simp at ho
    · rintro rfl; rw [hn] at a4; simp at a4
    · rintro rfl
      have e := hd.row.1
      rw [hn] at e
      simp at e
      unfold Lg.homes Dk.len at hhm
      rw [e] at hs
      have := h3.pos
      omega
    · rintro rfl; rw [hn] at hm4; simp at hm4
    · rintro rfl; rw [hn] at hm5; simp at hm5

/-- A home of 248 bytes, a slice laid over its head. -/
def padB (b : Bs) : Bs := b.take 248 ++ zeros (248 - b.length)
theorem length_padB (b : Bs) : (padB b).length = 248 := by simp [padB, length_zeros]; omega

theorem run_makeRow (n : Nat) (w : World) (hn : n ≤ 1000000) : ∃ cs, cs.size = n ∧ (Instr.makeSlice 88 (.int .i64 (n : Int)) (.int .i64 (n : Int))).run Tryz.prog w = .ok (.slice (some ⟨w.heap.size, 0, none⟩) n n) (w.alloc (.cells cs 30)) := by
  obtain ⟨i, hi, hz, h1, h2⟩ := info_parts info30
  have hr := run_make (P := Tryz.prog) w 88 30 i _ Tryz.underlying88 hi hz .i64 .i64 n n (by omega) (by omega) (by rw [h2]; omega) (by omega)
  rw [h1, Int.toNat_natCast, Nat.mul_one] at hr
  exact ⟨_, by show (madeCells #[Value.slice none 0 0] n).size = n; rw [← Array.length_toList, toList_madeCells_one]; simp, hr⟩

theorem copy_pad (x : Bs) : splice (u8s (zeros 248)) 0 (u8s (x.take 248)) = u8s (padB x) := by
  unfold splice padB
  rw [u8s_append, List.take_zero, List.nil_append, Nat.zero_add, length_u8s]
  congr 1
  simp only [zeros, u8s, List.map_replicate, List.drop_replicate, List.length_take]
  congr 1
  omega
theorem Kp.setRow (w : World) (g : Nat) (cs : Array Value) : Kp [g] w (w.setRow g cs) :=
  ⟨rfl, rfl, rfl, by simp [World.setRow], fun k _ h => setRow_other w g k cs (by simpa using h)⟩
/-- 'copy(b, x)' into 248 noughts. -/
theorem run_copy_pad {w : World} {g : Nat} {a : Option Addr} {cap : Nat} {x : Bs} (ty : TypeId) (hg : w.heap[g]? = some (.cells (zN 248) 5 (0, 0))) (hin : InB w (.slice a x.length cap) x) :
    ∃ w' c, (Builtin.copy_ #[30, 30] ty #[.slice (some ⟨g, 0, none⟩) 248 248, .slice a x.length cap]).run Tryz.prog w = .ok (.int .i64 c) w' ∧ w'.heap[g]? = some (.cells (u8s (padB x)).toArray 5 (0, 0)) ∧ Kp [g] w w' := by
  have hs : (Tryz.prog.info? 5).map (·.size) = some 1 := by
    obtain ⟨i, hi, hz, h1, h2⟩ := info_parts info5
    rw [hi]; simp [h1]
  obtain ⟨a', cap', e, hn, hc⟩ := hin
  simp only [Value.slice.injEq, true_and] at e
  obtain ⟨rfl, rfl⟩ := e
  cases a with
  | none =>
    obtain rfl := hn rfl
    refine ⟨w, 0, run_copy_none (P := Tryz.prog) w _ _ ty 5 _ _ _ _ _ _ Tryz.underlying30 hs rfl, ?_, Kp.refl _ _⟩
    rw [hg]
    unfold zN padB
    simp
  | some ad =>
    have hl : (u8s (x.take 248)).length = Nat.min x.length 248 := by rw [length_u8s, List.length_take, Nat.min_comm]
    refine ⟨_, _, run_copy_row (P := Tryz.prog) w _ _ ty 5 g 0 248 248 ad _ _ (zN 248) 5 (u8s (x.take 248)) Tryz.underlying30 hs hg hl (fun j v hj => hc ad rfl j v ?_) (by rw [hl, size_zN]; exact Nat.le_trans (by rw [Nat.zero_add]; exact Nat.min_le_right _ _) (Nat.le_refl _)) (one_u8s _), ?_, Kp.setRow _ _ _⟩
    · rw [u8s_get] at hj ⊢
      have hj' : j < 248 := by
        have := (List.getElem?_eq_some_iff.1 (show (u8s (x.take 248))[j]? = some v by rw [u8s_get]; exact hj)).1
        rw [hl] at this
        exact Nat.lt_of_lt_of_le this (Nat.min_le_right _ _)
      rw [List.getElem?_take, if_pos hj'] at hj
      exact hj
    · rw [setRow_heap w g _ _ _ _ hg]
      have e := copy_pad x
      unfold splice at e
      rw [← e]
      show some (Obj.cells ((zN 248).toList.take 0 ++ u8s (x.take 248) ++ (zN 248).toList.drop (0 + (u8s (x.take 248)).length)).toArray _ _) = _
      rw [List.append_assoc]
      rfl

theorem getF_fail {n : Nat} {H : Nat → Bs} : ∀ (f next : Nat) (l : List Nat) (b : Bs), (getF n H f next l b).1 ≠ 0 → (getF n H f next l b).2.2 = []
  | 0, _, _, _, _ => rfl
  | f + 1, next, l, b, h => by
    unfold getF at h ⊢
    split
    · rename_i h1; rw [if_pos h1] at h; exact absurd rfl h
    · rename_i h1
      rw [if_neg h1] at h
      split
      · rfl
      · rename_i h2
        rw [if_neg h2] at h
        split
        · rfl
        · rename_i h3
          rw [if_neg h3] at h
          exact getF_fail f _ _ _ h
theorem getC_fail {n : Nat} {H : Nat → Bs} (first : Nat) (h : (getC n H first).1 ≠ 0) : (getC n H first).2.2 = [] := by
  unfold getC at h ⊢
  split
  · rfl
  · rename_i h1
    rw [if_neg h1] at h
    exact getF_fail _ _ _ _ h
end Go.Proofs.YtonkeialdfofcaaGreatDoor
