/-
  Ranging over a map with int keys: whatever entry the tape hands out next.
-/
import Derived.Test.YtonkeialdfofcaaGreatDoorBase
namespace Go.Proofs.YtonkeialdfofcaaGreatDoor
open Go.RowKit Go
open Go.ChangeMaps (setBlock)

/-- Iterator r over the map b, which holds l; left: the pairs that are still to come; cur: the one that came out last. -/
def IterB (w : World) (r b : Nat) (l left : List (Int × Value)) (cur : Option (Int × Value)) : Prop :=
  ∃ es clock seen c0, w.heap[r]? = some (.mapIter (some b) clock seen c0) ∧ clock ≤ c0 ∧ w.heap[b]? = some (.map es clock) ∧ prs es.toList = kvs l ∧
    (es.toList.map MapEntry.born).Nodup ∧ (∀ e ∈ es.toList, e.born < clock) ∧ (l.map Prod.fst).Nodup ∧ prs (leftOf es seen).toList = kvs left ∧
    (∀ p, cur = some p → ∃ e ∈ es.toList, e.key = .int .i64 p.1 ∧ e.val = p.2 ∧ ∃ s' : Array Nat, seen = s'.push e.born ∧ c0 = clock)

theorem IterB.kp {S : List Nat} {w w' : World} {r b : Nat} {l left : List (Int × Value)} {cur : Option (Int × Value)} (h : IterB w r b l left cur) (k : Kp S w w') (hr : r ∉ S) (hb : b ∉ S) : IterB w' r b l left cur := by
  obtain ⟨es, c, s, c0, h1, h2, h3, h4⟩ := h
  exact ⟨es, c, s, c0, k.at h1 hr, h2, k.at h3 hb, h4⟩
theorem IterB.map {w : World} {r b : Nat} {l left : List (Int × Value)} {cur : Option (Int × Value)} (h : IterB w r b l left cur) : MapB w b l := by
  obtain ⟨es, c, s, c0, h1, h2, h3, h4, h5, h6, h7, _⟩ := h
  exact ⟨es, c, h3, h4, h5, h6, h7⟩

theorem mem_prs_key {es : List MapEntry} {l : List (Int × Value)} (h : prs es = kvs l) : ∀ e ∈ es, ∃ p ∈ l, e.key = .int .i64 p.1 ∧ e.val = p.2 := by
  intro e he
  have : (e.key, e.val) ∈ kvs l := h ▸ List.mem_map.2 ⟨e, he, rfl⟩
  obtain ⟨p, hp, e1⟩ := List.mem_map.1 this
  simp only [Prod.mk.injEq] at e1
  exact ⟨p, hp, e1.1.symm, e1.2.symm⟩

theorem keys_nodup_of {es : List MapEntry} {l : List (Int × Value)} (h : prs es = kvs l) (hn : (l.map Prod.fst).Nodup) : (es.map MapEntry.key).Nodup := by
  have e1 : es.map MapEntry.key = (l.map Prod.fst).map (Value.int .i64) := by
    have := congrArg (List.map Prod.fst) h
    simpa [prs, kvs, Function.comp_def] using this
  rw [e1]
  exact (List.pairwise_map).2 (hn.imp fun hne c => hne (by simpa using c))

theorem same_of_key {es : List MapEntry} (h : (es.map MapEntry.key).Nodup) {x y : MapEntry} (hx : x ∈ es) (hy : y ∈ es) (hk : x.key = y.key) : x = y := by
  induction es with
  | nil => simp at hx
  | cons e es ih =>
    simp only [List.map_cons, List.nodup_cons] at h
    rcases List.mem_cons.1 hx with rfl | hx' <;> rcases List.mem_cons.1 hy with rfl | hy'
    · rfl
    · exact absurd (List.mem_map.2 ⟨y, hy', hk.symm⟩) h.1
    · exact absurd (List.mem_map.2 ⟨x, hx', hk⟩) h.1
    · exact ih h.2 hx' hy'
theorem same_of_born {es : List MapEntry} (h : (es.map MapEntry.born).Nodup) {x y : MapEntry} (hx : x ∈ es) (hy : y ∈ es) (hk : x.born = y.born) : x = y := by
  induction es with
  | nil => simp at hx
  | cons e es ih =>
    simp only [List.map_cons, List.nodup_cons] at h
    rcases List.mem_cons.1 hx with rfl | hx' <;> rcases List.mem_cons.1 hy with rfl | hy'
    · rfl
    · exact absurd (List.mem_map.2 ⟨y, hy', hk.symm⟩) h.1
    · exact absurd (List.mem_map.2 ⟨x, hx', hk⟩) h.1
    · exact ih h.2 hx' hy'

theorem prs_strike {e : MapEntry} {p : Int × Value} (hek : e.key = .int .i64 p.1) : ∀ (L : List MapEntry) (left : List (Int × Value)), prs L = kvs left → (∀ x ∈ L, x.born = e.born ↔ x.key = e.key) →
    prs (L.filter fun x => !(x.born == e.born)) = kvs (left.filter fun q => !(q.1 == p.1)) := by
  intro L
  induction L with
  | nil =>
    intro left h _
    cases left with
    | nil => rfl
    | cons q left => simp [prs, kvs] at h
  | cons x L ih =>
    intro left h hs
    cases left with
    | nil => simp [prs, kvs] at h
    | cons q left =>
      simp only [prs, kvs, List.map_cons, List.cons.injEq, Prod.mk.injEq] at h
      obtain ⟨⟨h1, h2⟩, h3⟩ := h
      have ih' := ih left h3 (fun y hy => hs y (by simp [hy]))
      have hx := hs x (by simp)
      have hkey : x.key = e.key ↔ q.1 = p.1 := by rw [h1, hek]; simp
      by_cases hq : q.1 = p.1
      · have : x.born = e.born := hx.2 (hkey.2 hq)
        simp [hq, this]
        simpa using ih'
      · have : ¬ x.born = e.born := fun c => hq (hkey.1 (hx.1 c))
        simp only [List.filter_cons]
        simp [hq, this, prs, kvs, h1, h2]
        simpa [prs, kvs] using ih'

section
variable {P : Program}

theorem run_range_map {w : World} {t k e : TypeId} {b : Nat} {l : List (Int × Value)} (ht : P.underlying t = some (.map k e)) (hB : MapB w b l) :
    ∃ w', (Instr.range t (.map (some b))).run P w = .ok (.pointer (some ⟨w.heap.size, 0, none⟩)) w' ∧ IterB w' w.heap.size b l l none ∧ Kp [] w w' := by
  have hB' := hB
  obtain ⟨es, c, h1, h2, h3, h4, h5⟩ := hB
  refine ⟨w.alloc (.mapIter (some b) c #[] c), ?_, ⟨es, c, #[], c, blk_alloc_new _ _, Nat.le_refl _, (Kp.alloc _ _).at h1 (by simp), h2, h3, h4, h5, ?_, by simp⟩, Kp.alloc _ _⟩
  · simp [Instr.range, underlying, ht, run_getObj_map h1, Sem.run_bind, Result.andThen, newObj, Sem.run]
  · have : (leftOf es #[]).toList = es.toList := by simp [leftOf, List.filter_eq_self]
    rw [this]; exact h2

theorem run_next_map {w : World} (ty : TypeId) {r b : Nat} {l left : List (Int × Value)} {cur : Option (Int × Value)} (h : IterB w r b l left cur) :
    (left = [] ∧ (Instr.next (.pointer (some ⟨r, 0, none⟩)) false ty).run P w = .ok (.tuple #[.bool false]) w) ∨
    ∃ p w', p ∈ left ∧ (Instr.next (.pointer (some ⟨r, 0, none⟩)) false ty).run P w = .ok (.tuple #[.bool true, .int .i64 p.1, p.2]) w' ∧ IterB w' r b l (left.filter fun q => !(q.1 == p.1)) (some p) ∧ Kp [r] w w' := by
  obtain ⟨es, c, seen, c0, h1, h2, h3, h4, h5, h6, h7, h8, _⟩ := h
  rcases run_next_at (P := P) w ty r b c c0 seen es c h1 h3 h6 h2 with ⟨hz, hr⟩ | ⟨e, he, w1, hw1, hr⟩
  · left
    refine ⟨?_, hr⟩
    have : (leftOf es seen).toList = [] := List.eq_nil_of_length_eq_zero (by simpa using hz)
    rw [this] at h8
    cases left with
    | nil => rfl
    | cons => simp [prs, kvs] at h8
  · right
    obtain ⟨p, hp, hek, hev⟩ := mem_prs_key h8 e he
    have hmem : ∀ x ∈ (leftOf es seen).toList, x ∈ es.toList := fun x hx => by simp [leftOf] at hx ⊢; exact hx.1
    have hk1 : Kp [] w w1 := by rcases hw1 with rfl | rfl; exact Kp.refl _ _; exact Kp.drew _
    have hr1 := hk1.at h1 (by simp)
    have hb1 := hk1.at h3 (by simp)
    have hne : b ≠ r := fun c => by rw [c, h1] at h3; simp at h3
    have hkn := keys_nodup_of h4 h7
    refine ⟨p, setBlock w1 r (.mapIter (some b) c (seen.push e.born) c), hp, by rw [hr, hek, hev], ⟨es, c, seen.push e.born, c, blk_setBlock hr1, Nat.le_refl _, (Kp.setBlock _ _ _).at hb1 (by simpa using hne), h4, h5, h6, h7, ?_, ?_⟩, ?_⟩
    · have e1 : (leftOf es (seen.push e.born)).toList = (leftOf es seen).toList.filter fun x => !(x.born == e.born) := by
        simp only [leftOf, Array.toList_filter, List.filter_filter]
        apply List.filter_congr
        intro x _
        simp [Bool.and_comm]
        rfl
      rw [e1]
      exact prs_strike hek _ _ h8 fun x hx => ⟨fun c => by rw [same_of_born h5 (hmem x hx) (hmem e he) c], fun c => by rw [same_of_key hkn (hmem x hx) (hmem e he) c]⟩
    · intro q hq
      obtain rfl : p = q := Option.some.inj hq
      exact ⟨e, hmem e he, hek, hev, seen, rfl, rfl⟩
    · exact (hk1.mono (by simp)).and (Kp.setBlock _ _ _)

theorem run_entry_map {w : World} {r b : Nat} {l left : List (Int × Value)} {p : Int × Value} (h : IterB w r b l left (some p)) :
    (Instr.entry (.pointer (some ⟨r, 0, none⟩))).run P w = .ok (.tuple #[.int .i64 p.1, p.2]) w := by
  obtain ⟨es, c, seen, c0, h1, h2, h3, h4, h5, h6, h7, h8, h9⟩ := h
  obtain ⟨e, he, hk, hv, s', rfl, rfl⟩ := h9 p rfl
  rw [run_entry_at (P := P) w r b c0 s' es c0 e h1 h3 he h5, hk, hv]

/-- A 'range' over a map, for the walk. -/
theorem wpList_range_map {w : World} {ops : Array Oper} {rest : List Oper} {o : Oper} {a : Act} {Q : Exit → Act → World → Prop} (hg : o.guard = none) (m : Operand) (t : TypeId) (ho : o.op = .range t m) {k e : TypeId}
    (ht : P.underlying t = some (.map k e)) {b : Nat} {l : List (Int × Value)} (hm : a.eval m = .map (some b)) (hB : MapB w b l)
    (h : ∀ w', IterB w' w.heap.size b l l none → Kp [] w w' → wpList P ops Q rest (a.put o.dst (.pointer (some ⟨w.heap.size, 0, none⟩))) w') : wpList P ops Q (o :: rest) a w := by
  refine wpList_plain hg fun _ hK => ?_
  obtain ⟨w', hr, h1, h2⟩ := run_range_map (P := P) ht hB
  unfold Oper.wp execOp
  simp only [ho, hm, hr, Sem.run_bind, Result.andThen, Sem.run_pure]
  exact hK _ _ (h w' h1 h2)

theorem wpList_next_map {w : World} {ops : Array Oper} {rest : List Oper} {o : Oper} {a : Act} {Q : Exit → Act → World → Prop} (hg : o.guard = none) (it : Operand) (ho : o.op = .next it false)
    {r b : Nat} {l left : List (Int × Value)} {cur : Option (Int × Value)} (hi : a.eval it = .pointer (some ⟨r, 0, none⟩)) (hB : IterB w r b l left cur)
    (h0 : left = [] → wpList P ops Q rest (a.put o.dst (.tuple #[.bool false])) w)
    (h1 : ∀ x v w', (x, v) ∈ left → IterB w' r b l (left.filter fun q => !(q.1 == x)) (some (x, v)) → Kp [r] w w' → wpList P ops Q rest (a.put o.dst (.tuple #[.bool true, .int .i64 x, v])) w') : wpList P ops Q (o :: rest) a w := by
  refine wpList_plain hg fun _ hK => ?_
  unfold Oper.wp execOp
  rcases run_next_map (P := P) o.type hB with ⟨h, hr⟩ | ⟨p, w', hp, hr, h2, h3⟩
  · simp only [ho, hi, hr, Sem.run_bind, Result.andThen, Sem.run_pure]
    exact hK _ _ (h0 h)
  · simp only [ho, hi, hr, Sem.run_bind, Result.andThen, Sem.run_pure]
    exact hK _ _ (h1 p.1 p.2 w' hp h2 h3)

theorem wpList_mapUpdate_int {w : World} {ops : Array Oper} {rest : List Oper} {o : Oper} {a : Act} {Q : Exit → Act → World → Prop} (hg : o.guard = none) (m x v : Operand) (t : TypeId) (ho : o.op = .mapUpdate t m x v) {k e : TypeId}
    (ht : P.underlying t = some (.map k e)) (hk : P.underlying k = some (.int .i64)) {b : Nat} {l : List (Int × Value)} {i : Int} {u : Value} (hm : a.eval m = .map (some b)) (hx : a.eval x = .int .i64 i) (hv : a.eval v = u) (hB : MapB w b l)
    (h : ∀ w', MapB w' b (aput l i u) → Kp [b] w w' → wpList P ops Q rest (a.put o.dst undef) w') : wpList P ops Q (o :: rest) a w := by
  refine wpList_plain hg fun _ hK => ?_
  obtain ⟨w', hr, h1, h2⟩ := run_mapUpdate (P := P) ht hk hB i u
  unfold Oper.wp execOp
  simp only [ho, hm, hx, hv, hr, Sem.run_bind, Result.andThen, Sem.run_pure]
  exact hK _ _ (h w' h1 h2)
end
end Go.Proofs.YtonkeialdfofcaaGreatDoor
