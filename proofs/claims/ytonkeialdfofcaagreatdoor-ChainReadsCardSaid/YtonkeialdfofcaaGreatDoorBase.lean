/-
  The frame relation 'Kp' (only named blocks may differ), maps with int keys as lists of pairs, slices of bytes that read as a list: plain facts on worlds, for whatever program.
-/
import Derived.WalkKit
import Derived.WalkSpells
import Derived.WalkLawsBesides
import Derived.Lib.Hide
import Derived.Maps.RangeRun
namespace Go.Proofs.YtonkeialdfofcaaGreatDoor
open Go.RowKit Go
open Go.ChangeMaps (setBlock)

/-- All blocks of w but those of S stand in w'. -/
structure Kp (S : List Nat) (w w' : World) : Prop where
  os : w'.os = w.os
  tape : w'.tape = w.tape
  output : w'.output = w.output
  size : w.heap.size ≤ w'.heap.size
  blk : ∀ k, k < w.heap.size → k ∉ S → w'.heap[k]? = w.heap[k]?

theorem lt_of_blk {w : World} {k : Nat} {o : Obj} (h : w.heap[k]? = some o) : k < w.heap.size := (Array.getElem?_eq_some_iff.1 h).1

theorem Kp.refl (S : List Nat) (w : World) : Kp S w w := ⟨rfl, rfl, rfl, Nat.le_refl _, fun _ _ _ => rfl⟩
theorem Kp.mono {S T : List Nat} {w w' : World} (h : Kp S w w') (hs : ∀ x ∈ S, x ∈ T) : Kp T w w' :=
  ⟨h.os, h.tape, h.output, h.size, fun k hk hn => h.blk k hk fun c => hn (hs k c)⟩
theorem Kp.trans {S T : List Nat} {w w1 w2 : World} (h : Kp S w w1) (k : Kp T w1 w2) (ht : ∀ x ∈ T, x ∈ S ∨ w.heap.size ≤ x) : Kp S w w2 :=
  ⟨k.os.trans h.os, k.tape.trans h.tape, k.output.trans h.output, Nat.le_trans h.size k.size, fun b hb hn => by
    rw [k.blk b (Nat.lt_of_lt_of_le hb h.size) (fun c => (ht b c).elim hn (fun l => by omega)), h.blk b hb hn]⟩
/-- plain steps behind one another -/
theorem Kp.and {S : List Nat} {w w1 w2 : World} (h : Kp S w w1) (k : Kp S w1 w2) : Kp S w w2 := h.trans k fun _ hx => .inl hx
theorem Kp.at {S : List Nat} {w w' : World} {b : Nat} {o : Obj} (h : Kp S w w') (hb : w.heap[b]? = some o) (hn : b ∉ S) : w'.heap[b]? = some o := by
  rw [h.blk b (lt_of_blk hb) hn, hb]
theorem Kp.alloc (w : World) (o : Obj) : Kp [] w (w.alloc o) := by
  refine ⟨rfl, rfl, rfl, by show w.heap.size ≤ (w.heap.push o).size; simp, fun k hk _ => ?_⟩
  show (w.heap.push o)[k]? = _
  rw [Array.getElem?_push]
  rw [if_neg (by omega)]
theorem Kp.drew (w : World) : Kp [] w w.drew := ⟨rfl, rfl, rfl, Nat.le_refl _, fun _ _ _ => rfl⟩
theorem Kp.setCell (w : World) (a : Addr) (v : Value) : Kp [a.block] w (w.setCell a v) := by
  refine ⟨rfl, rfl, rfl, by simp [World.setCell], fun k _ hn => ?_⟩
  simp only [List.mem_singleton] at hn
  simp only [World.setCell, Array.getElem?_modify]
  rw [if_neg (fun e => hn e.symm)]
theorem Kp.setBlock (w : World) (b : Nat) (o : Obj) : Kp [b] w (setBlock w b o) := by
  refine ⟨rfl, rfl, rfl, by simp [ChangeMaps.setBlock], fun k _ hn => ?_⟩
  simp only [List.mem_singleton] at hn
  simp only [ChangeMaps.setBlock, Array.getElem?_setIfInBounds]
  rw [if_neg (fun e => hn e.symm)]
theorem Kp.of_grown {w w' : World} {row : Option Nat} (h : w.grownBy w' row) : Kp row.toList w w' :=
  ⟨h.os, h.tape, h.output, h.size, fun k hk hn => h.block k hk fun e => hn (by simp [← e])⟩
theorem Kp.below {w w' : World} (h : Kp [] w w') : Below w.heap.size w w' :=
  ⟨h.os, h.tape, h.output, h.size, fun k hk => h.blk k hk (by simp)⟩

theorem blk_alloc_new (w : World) (o : Obj) : (w.alloc o).heap[w.heap.size]? = some o := by show (w.heap.push o)[w.heap.size]? = _; simp
theorem blk_setCell {w : World} {b : Nat} {cs : Array Value} {T : TypeId} {fz : Nat × Nat} (h : w.heap[b]? = some (.cells cs T fz)) (i : Nat) (v : Value) :
    (w.setCell ⟨b, i, none⟩ v).heap[b]? = some (.cells (cs.setIfInBounds i v) T fz) := by
  simp [World.setCell, Array.getElem?_modify, h]
theorem blk_setBlock {w : World} {b : Nat} {o o' : Obj} (h : w.heap[b]? = some o) : (setBlock w b o').heap[b]? = some o' := by
  simp [ChangeMaps.setBlock, lt_of_blk h]
theorem cell_of {w : World} {b : Nat} {cs : Array Value} {T : TypeId} {fz : Nat × Nat} (h : w.heap[b]? = some (.cells cs T fz)) (i : Nat) {v : Value} (hv : cs[i]? = some v) : w.cell? ⟨b, i, none⟩ = some v := by
  simp [World.cell?, h, hv]
theorem free_of {w : World} {b : Nat} {cs : Array Value} {T : TypeId} (h : w.heap[b]? = some (.cells cs T (0, 0))) (i : Nat) : w.frozen? ⟨b, i, none⟩ = false := by
  simp [World.frozen?, h]

/-! ### maps with int keys -/
def alook : List (Int × Value) → Int → Option Value
  | [], _ => none
  | (k', v) :: l, k => if k' = k then some v else alook l k
def aput : List (Int × Value) → Int → Value → List (Int × Value)
  | [], k, v => [(k, v)]
  | (k', v') :: l, k, v => if k' = k then (k, v) :: l else (k', v') :: aput l k v

theorem alook_aput (l : List (Int × Value)) (k j : Int) (v : Value) : alook (aput l k v) j = if k = j then some v else alook l j := by
  induction l with
  | nil => simp [aput, alook]
  | cons p l ih =>
    obtain ⟨k', v'⟩ := p
    by_cases h : k' = k
    · subst h
      by_cases h2 : k' = j <;> simp [aput, alook, h2]
    · by_cases h2 : k' = j
      · subst h2
        have : ¬ k = k' := fun e => h e.symm
        simp [aput, alook, h, this]
      · simp [aput, alook, h, h2, ih]
theorem mem_keys_aput {l : List (Int × Value)} {k x : Int} {v : Value} : x ∈ (aput l k v).map Prod.fst ↔ x = k ∨ x ∈ l.map Prod.fst := by
  induction l with
  | nil => simp [aput]
  | cons p l ih =>
    obtain ⟨k', v'⟩ := p
    by_cases h : k' = k
    · subst h; simp [aput]
    · simp only [aput, h, if_false, List.map_cons, List.mem_cons, ih]
      constructor
      · rintro (h | h | h) <;> simp [h]
      · rintro (h | h | h) <;> simp [h]
theorem nodup_aput {l : List (Int × Value)} (h : (l.map Prod.fst).Nodup) (k : Int) (v : Value) : ((aput l k v).map Prod.fst).Nodup := by
  induction l with
  | nil => simp [aput]
  | cons p l ih =>
    obtain ⟨k', v'⟩ := p
    simp only [List.map_cons, List.nodup_cons] at h
    by_cases e : k' = k
    · subst e; simp only [aput, if_true, List.map_cons, List.nodup_cons]; exact h
    · simp only [aput, e, if_false, List.map_cons, List.nodup_cons]
      refine ⟨fun c => ?_, ih h.2⟩
      rcases mem_keys_aput.1 c with rfl | c
      · exact e rfl
      · exact h.1 c
theorem alook_none_iff {l : List (Int × Value)} {k : Int} : alook l k = none ↔ k ∉ l.map Prod.fst := by
  induction l with
  | nil => simp [alook]
  | cons p l ih =>
    obtain ⟨k', v'⟩ := p
    by_cases h : k' = k
    · subst h; simp [alook]
    · simp only [alook, h, if_false, ih, List.map_cons, List.mem_cons, not_or]
      exact ⟨fun c => ⟨fun e => h e.symm, c⟩, fun c => c.2⟩
theorem alook_some_mem {l : List (Int × Value)} {k : Int} {v : Value} (h : alook l k = some v) : (k, v) ∈ l := by
  induction l with
  | nil => simp [alook] at h
  | cons p l ih =>
    obtain ⟨k', v'⟩ := p
    by_cases e : k' = k
    · subst e; simp [alook] at h; simp [h]
    · simp only [alook, e, if_false] at h; exact List.mem_cons_of_mem _ (ih h)
theorem alook_of_mem {l : List (Int × Value)} (hn : (l.map Prod.fst).Nodup) {k : Int} {v : Value} (h : (k, v) ∈ l) : alook l k = some v := by
  induction l with
  | nil => simp at h
  | cons p l ih =>
    obtain ⟨k', v'⟩ := p
    simp only [List.map_cons, List.nodup_cons] at hn
    rcases List.mem_cons.1 h with e | h
    · simp only [Prod.mk.injEq] at e; simp [alook, e.1, e.2]
    · have : k' ≠ k := fun e => hn.1 (e ▸ List.mem_map.2 ⟨_, h, rfl⟩)
      simp only [alook, this, if_false]; exact ih hn.2 h
theorem length_aput_none {l : List (Int × Value)} {k : Int} {v : Value} (h : alook l k = none) : (aput l k v).length = l.length + 1 := by
  induction l with
  | nil => rfl
  | cons p l ih =>
    obtain ⟨k', v'⟩ := p
    by_cases e : k' = k
    · subst e; simp [alook] at h
    · simp only [alook, e, if_false] at h; simp [aput, e, ih h]
theorem length_aput_some {l : List (Int × Value)} {k : Int} {u v : Value} (h : alook l k = some u) : (aput l k v).length = l.length := by
  induction l with
  | nil => simp [alook] at h
  | cons p l ih =>
    obtain ⟨k', v'⟩ := p
    by_cases e : k' = k
    · subst e; simp [aput]
    · simp only [alook, e, if_false] at h; simp [aput, e, ih h]

/-- The pairs of a map's entries. -/
def prs (es : List MapEntry) : List (Value × Value) := es.map fun e => (e.key, e.val)
def kvs (l : List (Int × Value)) : List (Value × Value) := l.map fun p => (Value.int .i64 p.1, p.2)

/-- Block b is a map, keyed by ints, that holds these pairs. -/
def MapB (w : World) (b : Nat) (l : List (Int × Value)) : Prop :=
  ∃ es clock, w.heap[b]? = some (.map es clock) ∧ prs es.toList = kvs l ∧ (es.toList.map MapEntry.born).Nodup ∧ (∀ e ∈ es.toList, e.born < clock) ∧ (l.map Prod.fst).Nodup

theorem MapB.kp {S : List Nat} {w w' : World} {b : Nat} {l : List (Int × Value)} (h : MapB w b l) (k : Kp S w w') (hn : b ∉ S) : MapB w' b l := by
  obtain ⟨es, c, h1, h2⟩ := h
  exact ⟨es, c, k.at h1 hn, h2⟩
theorem MapB.nodup {w : World} {b : Nat} {l : List (Int × Value)} (h : MapB w b l) : (l.map Prod.fst).Nodup := by
  obtain ⟨_, _, _, _, _, _, h⟩ := h; exact h
theorem MapB.lt {w : World} {b : Nat} {l : List (Int × Value)} (h : MapB w b l) : b < w.heap.size := by
  obtain ⟨_, _, h, _⟩ := h; exact lt_of_blk h
theorem MapB.new (w : World) : MapB (w.alloc (.map #[] 0)) w.heap.size [] := ⟨#[], 0, blk_alloc_new _ _, rfl, by simp, by simp, by simp⟩

theorem findNow_int (k : Int) : ∀ (es : List MapEntry) (l : List (Int × Value)) (i : Nat), prs es = kvs l →
    (alook l k = none → Instr.findNow (.int .i64) (.int .i64 k) es i = some none) ∧
    (∀ v, alook l k = some v → ∃ j, j < es.length ∧ Instr.findNow (.int .i64) (.int .i64 k) es i = some (some (i + j, v)) ∧ (∀ v', prs (es.modify j fun e => { e with key := .int .i64 k, val := v' }) = kvs (aput l k v')) ∧ ∃ e, es[j]? = some e ∧ e.key = .int .i64 k) := by
  intro es
  induction es with
  | nil =>
    intro l i h
    cases l with
    | nil => exact ⟨fun _ => rfl, fun v hv => by simp [alook] at hv⟩
    | cons p l => simp [prs, kvs] at h
  | cons e es ih =>
    intro l i h
    cases l with
    | nil => simp [prs, kvs] at h
    | cons p l =>
      obtain ⟨k', v'⟩ := p
      simp only [prs, kvs, List.map_cons, List.cons.injEq, Prod.mk.injEq] at h
      obtain ⟨⟨hk, hv⟩, ht⟩ := h
      obtain ⟨ih1, ih2⟩ := ih l (i + 1) ht
      by_cases e' : k' = k
      · subst e'
        refine ⟨fun c => by simp [alook] at c, fun v hv' => ⟨0, by simp, ?_, fun v'' => ?_, e, by simp, hk⟩⟩
        · simp [alook] at hv'
          simp [Instr.findNow, Instr.sameNow, hk, hv, hv']
        · simp [prs, kvs, aput, List.modify_cons]
          exact ht
      · have hne : (k == k') = false := by simpa using fun c => e' c.symm
        refine ⟨fun c => ?_, fun v hv' => ?_⟩
        · simp only [alook, e', if_false] at c
          simp [Instr.findNow, Instr.sameNow, hk, hne, ih1 c]
        · simp only [alook, e', if_false] at hv'
          obtain ⟨j, hj, h1, h2, e0, he0, he1⟩ := ih2 v hv'
          refine ⟨j + 1, by simp; omega, ?_, fun v'' => ?_, e0, by simpa using he0, he1⟩
          · simp [Instr.findNow, Instr.sameNow, hk, hne, h1]; omega
          · simp [prs, kvs, aput, e', hk, hv]
            exact h2 v''

section
variable {P : Program} {t k e : TypeId} {w : World} {b : Nat} {l : List (Int × Value)}

theorem run_getObj_map {es : Array MapEntry} {c : Nat} (h : w.heap[b]? = some (.map es c)) : (getObj b).run P w = .ok (.map es c) w := by
  simp [getObj, Sem.run, h]

theorem run_checkKey_int (n : Nat) (hk : P.underlying k = some (.int .i64)) (b0 : Bool) (i : Int) : (Instr.checkKey b0 (n + 1) k (.int .i64 i)).run P w = .ok () w := by
  simp [Instr.checkKey, underlying, hk, Sem.run_bind, Result.andThen]

theorem run_findKey_int (hk : P.underlying k = some (.int .i64)) (i : Int) (es : List MapEntry) (r : Option (Nat × Value)) (h : Instr.findNow (.int .i64) (.int .i64 i) es 0 = some r) :
    (Instr.findKey k (.int .i64 i) es).run P w = .ok r w := by
  simp [Instr.findKey, underlying, hk, Sem.run_bind, Result.andThen, h]

/-- 'v, ok := m[i]': there. -/
theorem run_look_some (ht : P.underlying t = some (.map k e)) (hk : P.underlying k = some (.int .i64)) (hB : MapB w b l) {i : Int} {v : Value} (hv : alook l i = some v) (ok : Bool) :
    (Instr.lookup t (.map (some b)) (.int .i64 i) ok).run P w = .ok (if ok then .tuple #[v, .bool true] else v) w := by
  obtain ⟨es, c, h1, h2, _⟩ := hB
  obtain ⟨j, _, hf, _⟩ := (findNow_int i es.toList l 0 h2).2 v hv
  cases ok <;> simp [Instr.lookup, underlying, ht, run_getObj_map h1, run_checkKey_int _ hk, run_findKey_int hk i es.toList _ hf, Sem.run_bind, Result.andThen]

/-- 'v, ok := m[i]': not there. -/
theorem run_look_none (ht : P.underlying t = some (.map k e)) (hk : P.underlying k = some (.int .i64)) (hB : MapB w b l) {i : Int} {z : Value} (hz : (zeroValue e).run P w = .ok z w) (hv : alook l i = none) (ok : Bool) :
    (Instr.lookup t (.map (some b)) (.int .i64 i) ok).run P w = .ok (if ok then .tuple #[z, .bool false] else z) w := by
  obtain ⟨es, c, h1, h2, _⟩ := hB
  have hf := (findNow_int i es.toList l 0 h2).1 hv
  cases ok <;> simp [Instr.lookup, underlying, ht, run_getObj_map h1, run_checkKey_int _ hk, run_findKey_int hk i es.toList _ hf, Sem.run_bind, Result.andThen, hz]

theorem run_setObj_map {es0 : Array MapEntry} {c0 : Nat} (h : w.heap[b]? = some (.map es0 c0)) (o' : Obj) : (setObj b o').run P w = .ok () (setBlock w b o') := by
  simp [setObj, Sem.run, h, setBlock]

/-- 'm[i] = v' -/
theorem run_mapUpdate (ht : P.underlying t = some (.map k e)) (hk : P.underlying k = some (.int .i64)) (hB : MapB w b l) (i : Int) (v : Value) :
    ∃ w', (Instr.mapUpdate t (.map (some b)) (.int .i64 i) v).run P w = .ok () w' ∧ MapB w' b (aput l i v) ∧ Kp [b] w w' := by
  obtain ⟨es, c, h1, h2, h3, h4, h5⟩ := hB
  cases hl : alook l i with
  | none =>
    have hf := (findNow_int i es.toList l 0 h2).1 hl
    refine ⟨setBlock w b (.map (es.push { key := .int .i64 i, val := v, born := c }) (c + 1)), ?_, ⟨_, _, blk_setBlock h1, ?_, ?_, ?_, nodup_aput h5 _ _⟩, Kp.setBlock _ _ _⟩
    · simp [Instr.mapUpdate, underlying, ht, run_getObj_map h1, run_checkKey_int _ hk, run_findKey_int hk i es.toList _ hf, Sem.run_bind, Result.andThen, run_setObj_map h1]
    · have : ∀ l : List (Int × Value), alook l i = none → kvs (aput l i v) = kvs l ++ [(.int .i64 i, v)] := by
        intro l
        induction l with
        | nil => intro _; rfl
        | cons p l ih =>
          obtain ⟨k', v'⟩ := p
          intro h
          by_cases e' : k' = i
          · subst e'; simp [alook] at h
          · simp only [alook, e', if_false] at h
            have := ih h
            simp only [kvs] at this
            simp [aput, e', kvs, this]
      rw [this l hl, ← h2]
      simp [prs]
    · simp only [Array.toList_push, List.map_append, List.map_cons, List.map_nil]
      refine List.nodup_append.2 ⟨h3, by simp, fun x hx y hy => ?_⟩
      simp only [List.mem_singleton] at hy
      obtain ⟨e0, he0, rfl⟩ := List.mem_map.1 hx
      have := h4 e0 he0
      omega
    · intro e0 he0
      simp only [Array.toList_push, List.mem_append, List.mem_singleton] at he0
      rcases he0 with he0 | rfl
      · have := h4 e0 he0; omega
      · simp
  | some u =>
    obtain ⟨j, hj, hf, hp, e0, he0, hek⟩ := (findNow_int i es.toList l 0 h2).2 u hl
    rw [Nat.zero_add] at hf
    have he0' : es[j]? = some e0 := by rw [← Array.getElem?_toList]; exact he0
    refine ⟨setBlock w b (.map (es.modify j fun e => { e with key := .int .i64 i, val := v }) c), ?_, ⟨_, _, blk_setBlock h1, ?_, ?_, ?_, nodup_aput h5 _ _⟩, Kp.setBlock _ _ _⟩
    · simp [Instr.mapUpdate, underlying, ht, run_getObj_map h1, run_checkKey_int _ hk, run_findKey_int hk i es.toList _ hf, Sem.run_bind, Result.andThen, run_setObj_map h1, he0', hek, Instr.keyThatStays, Instr.sameBits]
    · rw [Array.toList_modify]; exact hp v
    · rw [Array.toList_modify]
      have : ∀ (es : List MapEntry) (j : Nat), (es.modify j fun e => { e with key := .int .i64 i, val := v }).map MapEntry.born = es.map MapEntry.born := by
        intro es
        induction es with
        | nil => intro j; cases j <;> rfl
        | cons x es ih => intro j; cases j with
          | zero => rfl
          | succ j => simp [ih]
      rw [this]; exact h3
    · rw [Array.toList_modify]
      have : ∀ (es : List MapEntry) (j : Nat), (∀ e ∈ es, e.born < c) → ∀ e ∈ (es.modify j fun e => { e with key := .int .i64 i, val := v }), e.born < c := by
        intro es
        induction es with
        | nil => intro j h e0 he; cases j <;> simp [List.modify] at he
        | cons x es ih =>
          intro j h e0 he
          cases j with
          | zero =>
            simp only [List.modify_cons, if_true] at he
            rcases List.mem_cons.1 he with rfl | he
            · exact h x (by simp)
            · exact h e0 (by simp [he])
          | succ j =>
            simp only [List.modify_cons, Nat.add_one_ne_zero, if_false, Nat.add_sub_cancel] at he
            rcases List.mem_cons.1 he with rfl | he
            · exact h _ (by simp)
            · exact ih j (fun e he => h e (by simp [he])) e0 he
      exact this _ _ h4

theorem MapB.size {es : Array MapEntry} {c : Nat} (hB : MapB w b l) (h : w.heap[b]? = some (.map es c)) : es.size = l.length := by
  obtain ⟨es', c', h1, h2, _⟩ := hB
  rw [h] at h1
  simp only [Option.some.injEq, Obj.map.injEq] at h1
  obtain ⟨rfl, rfl⟩ := h1
  have := congrArg List.length h2
  simpa [prs, kvs] using this
end
end Go.Proofs.YtonkeialdfofcaaGreatDoor
