/-
  Slices of bytes that read as a list of bytes: what makes, appends, stores and readings do to them, at this program's types.
-/
import Derived.Test.YtonkeialdfofcaaGreatDoorProg
import Derived.Test.YtonkeialdfofcaaGreatDoorBase
namespace Go.Proofs.YtonkeialdfofcaaGreatDoor
open Go.RowKit Go

/-- A byte as a value. -/
def bv (x : UInt8) : Value := .int .u8 (x.toNat : Int)
def u8s (bs : List UInt8) : List Value := bs.map bv
theorem u8s_append (a b : List UInt8) : u8s (a ++ b) = u8s a ++ u8s b := List.map_append
theorem length_u8s (a : List UInt8) : (u8s a).length = a.length := List.length_map _
theorem u8s_get (a : List UInt8) (i : Nat) : (u8s a)[i]? = a[i]?.map bv := List.getElem?_map ..

/-- A slice of bytes that reads as bs, over a block of bytes, at b from off on. -/
def BytesAt (w : World) (v : Value) (bs : List UInt8) : Prop :=
  (v = .slice none 0 0 ∧ bs = []) ∨
  ∃ b off cap cs fz, v = .slice (some ⟨b, off, none⟩) bs.length cap ∧ bs.length ≤ cap ∧ w.heap[b]? = some (.cells cs 5 fz) ∧ off + cap ≤ cs.size ∧ ∀ i, i < bs.length → cs[off + i]? = (u8s bs)[i]?

/-- None of S is a block of bytes. -/
def NoB (w : World) (S : List Nat) : Prop := ∀ k ∈ S, ∀ cs fz, w.heap[k]? ≠ some (.cells cs 5 fz)
theorem NoB.nil (w : World) : NoB w [] := fun _ h => by simp at h
theorem NoB.cons {w : World} {k : Nat} {o : Obj} {S : List Nat} (hk : w.heap[k]? = some o) (ho : ∀ cs fz, o ≠ .cells cs 5 fz) (h : NoB w S) : NoB w (k :: S) := by
  intro j hj cs fz
  rcases List.mem_cons.1 hj with rfl | hj
  · rw [hk]; intro e; exact ho cs fz (Option.some.inj e)
  · exact h j hj cs fz

theorem BytesAt.kp {S : List Nat} {w w' : World} {v : Value} {bs : List UInt8} (h : BytesAt w v bs) (k : Kp S w w') (hn : NoB w S) : BytesAt w' v bs := by
  rcases h with h | ⟨b, off, cap, cs, fz, h1, h2, h3, h4⟩
  · exact .inl h
  · exact .inr ⟨b, off, cap, cs, fz, h1, h2, k.at h3 (fun c => hn b c cs fz h3), h4⟩
theorem BytesAt.kp0 {w w' : World} {v : Value} {bs : List UInt8} (h : BytesAt w v bs) (k : Kp [] w w') : BytesAt w' v bs := h.kp k (NoB.nil w)
theorem BytesAt.slice {w : World} {v : Value} {bs : List UInt8} (h : BytesAt w v bs) : ∃ a cap, v = .slice a bs.length cap := by
  rcases h with ⟨rfl, rfl⟩ | ⟨b, off, cap, cs, fz, h1, _⟩
  · exact ⟨none, 0, rfl⟩
  · exact ⟨_, _, h1⟩
theorem BytesAt.shape {w : World} {v : Value} {bs : List UInt8} (h : BytesAt w v bs) : ∃ a n cap, v = .slice a n cap := by
  obtain ⟨a, cap, h⟩ := h.slice; exact ⟨a, _, cap, h⟩
theorem BytesAt.nil (w : World) : BytesAt w (.slice none 0 0) [] := .inl ⟨rfl, rfl⟩

/-- A slice of bytes of the call's own. -/
def OwnB (w : World) (base : Nat) (v : Value) (bs : List UInt8) : Prop := w.ownsRow base 5 1 v bs.length (u8s bs)

theorem OwnB.bytes {w : World} {base : Nat} {v : Value} {bs : List UInt8} (h : OwnB w base v bs) : BytesAt w v bs := by
  obtain ⟨h1, h2 | ⟨g, cap, cur, rfl, hb, hg, hn, hm, hs, ht⟩⟩ := h
  · obtain ⟨rfl, h2⟩ := h2
    exact .inl ⟨rfl, List.eq_nil_of_length_eq_zero h2⟩
  · refine .inr ⟨g, 0, cap, cur, (0, 0), rfl, hn, hg, by omega, fun i hi => ?_⟩
    rw [← ht, List.getElem?_take, if_pos (by omega)]
    simp
theorem OwnB.kp {S : List Nat} {w w' : World} {base : Nat} {v : Value} {bs : List UInt8} (h : OwnB w base v bs) (k : Kp S w w') (hn : ∀ x ∈ S, x < base) : OwnB w' base v bs := by
  obtain ⟨h1, h2 | ⟨g, cap, cur, rfl, hb, hg, r⟩⟩ := h
  · exact ⟨h1, .inl h2⟩
  · exact ⟨h1, .inr ⟨g, cap, cur, rfl, hb, k.at hg (fun c => by have := hn g c; omega), r⟩⟩
theorem OwnB.kp0 {w w' : World} {base : Nat} {v : Value} {bs : List UInt8} (h : OwnB w base v bs) (k : Kp [] w w') : OwnB w' base v bs := h.kp k (by simp)
theorem OwnB.nil (w : World) (base : Nat) : OwnB w base (.slice none 0 0) [] := World.ownsRow_nil w base _ 1
theorem OwnB.own {w : World} {base : Nat} {v : Value} {bs : List UInt8} (h : OwnB w base v bs) : ∀ x ∈ v.ownBlock.toList, base ≤ x := by
  intro x hx
  have := World.ownsRow.lt h x (by simpa using hx)
  exact this.1
theorem OwnB.mono {w : World} {base base' : Nat} {v : Value} {bs : List UInt8} (h : OwnB w base v bs) (hb : base' ≤ base) : OwnB w base' v bs := by
  obtain ⟨h1, h2 | ⟨g, cap, cur, rfl, hb', r⟩⟩ := h
  · exact ⟨h1, .inl h2⟩
  · exact ⟨h1, .inr ⟨g, cap, cur, rfl, by omega, r⟩⟩

theorem info5 : (Tryz.prog.info? 5).map (fun i => (i.zero, i.size, i.bytes)) = some (some (.int .u8 0), 1, 1) := by kernel_rfl

theorem addr_add (b off j : Nat) : (⟨b, off, none⟩ : Addr).add j = ⟨b, off + j, none⟩ := by unfold Addr.add; split <;> simp_all

theorem one_u8s (bs : List UInt8) : ∀ u ∈ u8s bs, u.oneCell' = true := by
  intro u hu
  obtain ⟨x, _, rfl⟩ := List.mem_map.1 hu
  rfl

theorem BytesAt.cellAt {w : World} {b off n cap : Nat} {bs : List UInt8} (h : BytesAt w (.slice (some ⟨b, off, none⟩) n cap) bs) (i : Nat) (u : Value) (hu : (u8s bs)[i]? = some u) : w.cell? ((⟨b, off, none⟩ : Addr).add i) = some u := by
  rcases h with ⟨h, _⟩ | ⟨b', off', cap', cs, fz, h1, h2, h3, h4, h5⟩
  · simp at h
  · simp only [Value.slice.injEq, Option.some.injEq, Addr.mk.injEq] at h1
    obtain ⟨⟨rfl, rfl, _⟩, _, _⟩ := h1
    rw [addr_add]
    refine cell_of h3 _ ?_
    rw [h5 i, hu]
    have := (List.getElem?_eq_some_iff.1 hu).1
    simpa [length_u8s] using this

theorem run_append_bytes {w : World} {base : Nat} {v x : Value} {xs bs : List UInt8} (ty : TypeId) (hown : OwnB w base v xs) (hb : BytesAt w x bs) (hs : xs.length + bs.length ≤ 1000000) (hbase : base ≤ w.heap.size) :
    ∃ v' w', (Builtin.append_ #[30, 30] ty #[v, x]).run Tryz.prog w = .ok v' w' ∧ OwnB w' base v' (xs ++ bs) ∧ Kp v.ownBlock.toList w w' := by
  obtain ⟨i, hi, hz, h1, h2⟩ := info_parts info5
  rcases hb with ⟨rfl, rfl⟩ | ⟨b, off, cap, cs, fz, rfl, g2, g3, g4, g5⟩
  · obtain ⟨v', w', hr, ho, hg⟩ : ∃ v' w', (Builtin.append_ #[30, 30] ty #[v, .slice none 0 0]).run Tryz.prog w = .ok v' w' ∧ w'.ownsRow base 5 1 v' xs.length (u8s xs) ∧ w.grownBy w' v.ownBlock := by
      refine ⟨v, w, ?_, hown, ⟨rfl, rfl, rfl, Nat.le_refl _, fun _ _ _ => rfl⟩⟩
      obtain ⟨e1, ⟨rfl, e2⟩ | ⟨g, cap, cur, rfl, hb, hg, hn, hm, hs', ht⟩⟩ := hown
      · simp [Builtin.append_, run_underlying Tryz.underlying30, sizeOf, typeInfo, hi, Builtin.lenOf, run_firstCells_none]
      · simp [Builtin.append_, run_underlying Tryz.underlying30, sizeOf, typeInfo, hi, Builtin.lenOf, hn, run_firstCells_none, storeCells]
    refine ⟨v', w', hr, ?_, Kp.of_grown hg⟩
    rw [List.append_nil]; exact ho
  · have hc : BytesAt w (.slice (some ⟨b, off, none⟩) bs.length cap) bs := .inr ⟨b, off, cap, cs, fz, rfl, g2, g3, g4, g5⟩
    obtain ⟨v', w', hr, ho, hg, _⟩ := run_append_own (P := Tryz.prog) w base 30 ty 5 i _ 1 1 Tryz.underlying30 hi hz h1 h2 rfl (by decide) v xs.length (u8s xs) hown ⟨b, off, none⟩ bs.length cap (u8s bs) (by simp [length_u8s]) hc.cellAt (one_u8s bs) (by unfold maxLen; omega) (by omega) hbase
    refine ⟨v', w', hr, ?_, Kp.of_grown hg⟩
    unfold OwnB
    rw [u8s_append, List.length_append]
    exact ho

theorem wpList_append_bytes {w : World} {ops : Array Oper} {rest : List Oper} {o : Oper} {a : Act} {Q : Exit → Act → World → Prop} (hgd : o.guard = none) (s x : Operand)
    (ho : o.op = .call { callee := .builtin .append, args := #[s, x], argTypes := #[30, 30] })
    (base : Nat) (v xv : Value) (xs bs : List UInt8) (hs : a.eval s = v) (hx : a.eval x = xv) (hown : OwnB w base v xs) (hb : BytesAt w xv bs) (hsz : xs.length + bs.length ≤ 1000000) (hbase : base ≤ w.heap.size)
    (h : ∀ v' w', OwnB w' base v' (xs ++ bs) → Kp v.ownBlock.toList w w' → wpList Tryz.prog ops Q rest (a.put o.dst v') w') : wpList Tryz.prog ops Q (o :: rest) a w := by
  refine wpList_plain hgd fun _ hK => ?_
  obtain ⟨v', w', hr, h2, h3⟩ := run_append_bytes o.type hown hb hsz hbase
  unfold Oper.wp execOp
  simp only [ho, resolve, invoke, builtin, Sem.run_bind, Sem.run_pure, Result.andThen_ok, List.map_toArray, List.map_cons, List.map_nil, hs, hx, hr]
  exact hK _ _ (h v' w' h2 h3)

theorem run_asInt' (w : World) (k : IntKind) (n : Int) : (asInt (.int k n)).run Tryz.prog w = .ok n w := rfl

theorem take3 {α : Type} (a b c : List α) : (a ++ (b ++ c)).take (a.length + b.length) = a ++ b := by
  rw [← List.append_assoc, ← List.length_append]; exact List.take_left
theorem arr3 (a b : List Value) (c : Array Value) : a.toArray ++ (b.toArray ++ c) = (a ++ b).toArray ++ c := by
  apply Array.ext'; simp

theorem zeroCells_one (n : Nat) : Builtin.zeroCells #[Value.int .u8 0] n = (u8s (List.replicate n 0)).toArray := by
  apply Array.ext'
  apply List.ext_getElem?
  intro i
  simp [Builtin.zeroCells, u8s, bv, List.getElem?_replicate, Nat.mod_one]
  split <;> simp_all

/-- 'append(v, make([]byte, k)...)' -/
theorem run_append_zeros {w : World} {base : Nat} {v : Value} {xs : List UInt8} (ty : TypeId) (k : Nat) (hown : OwnB w base v xs) (hs : xs.length + k ≤ 1000000) (hbase : base ≤ w.heap.size) :
    ∃ v' w', (Builtin.append_ #[30, 3] ty #[v, .int .i64 (k : Int)]).run Tryz.prog w = .ok v' w' ∧ OwnB w' base v' (xs ++ List.replicate k 0) ∧ Kp v.ownBlock.toList w w' := by
  obtain ⟨i, hi, hz, h1, h2⟩ := info_parts info5
  have hk : IntKind.i64.wrap (k : Int) = k := by rw [IntWalk.i64_in]; omega
  have hk2 : ¬ ((k : Int) < 0) := by omega
  have hk3 : ¬ (281474976710656 < (k : Int)) := by omega
  have hlen : (u8s (xs ++ List.replicate k 0)).length = xs.length + k := by simp [length_u8s]
  have hun := run_underlying Tryz.underlying3 w
  obtain ⟨e1, ⟨rfl, e2⟩ | ⟨g, cap, cur, rfl, hb, hg, hn, hm, hs', ht⟩⟩ := hown
  · have : xs = [] := List.eq_nil_of_length_eq_zero e2
    subst this
    by_cases h0 : k = 0
    · subst h0
      refine ⟨.slice none 0 0, w, ?_, OwnB.nil w base, Kp.refl _ _⟩
      simp [Builtin.append_, run_underlying Tryz.underlying30, run_underlying Tryz.underlying3, sizeOf, typeInfo, hi, h2, run_asInt', IntWalk.i64_in]
    · have c1 : ¬ (k ≤ 0) := by omega
      have c2 : ¬ (9223372036854775807 < (k : Int)) := by omega
      have c3 : ¬ (281474976710656 < Builtin.nextslicecap k 0) := by rw [nextslicecap_zero (by omega)]; omega
      refine ⟨.slice (some ⟨w.heap.size, 0, none⟩) k (grownCap w k 0 5), w.drew.alloc (.cells (Builtin.zeroCells #[Value.int .u8 0] k ++ Builtin.zeroCells #[Value.int .u8 0] (grownCap w k 0 5 - k)) 5), ?_, ?_, ?_⟩
      · simp [Builtin.append_, run_underlying Tryz.underlying30, run_underlying Tryz.underlying3, sizeOf, typeInfo, zeroValue, hi, h1, h2, hz, run_asInt', hk, hk2, hk3, c2, c3, h0, Question.forced, run_firstCells_none, newRow, grownCap, Value.cells]
      · have hge := grownCap_ge w k 0 5
        have hcm := grownCap_le_maxLen w k 0 5 (by unfold maxLen; omega)
        refine ⟨by simp [length_u8s], .inr ⟨w.heap.size, _, _, by simp, hbase, heap_alloc_new w.drew _, by simp; omega, hcm, ?_, ?_⟩⟩
        · simp [size_zeroCells]; omega
        · rw [zeroCells_one]
          simp [length_u8s]
      · exact (Kp.drew w).trans (Kp.alloc _ _) (by simp)
  · by_cases hroom : xs.length + k ≤ cap
    · have hst := run_storeCells_at Tryz.prog g xs.length 5 (u8s (List.replicate k 0)) 0 cur w hg (by simp [length_u8s]; omega) (one_u8s _)
      refine ⟨.slice (some ⟨g, 0, none⟩) (xs.length + k) cap, w.setRow g (cur.toList.take xs.length ++ u8s (List.replicate k 0) ++ cur.toList.drop (xs.length + k)).toArray, ?_, ?_, ?_⟩
      · have hzc := zeroCells_one k
        by_cases h0 : k = 0
        · subst h0
          simp [Builtin.append_, run_underlying Tryz.underlying30, run_underlying Tryz.underlying3, sizeOf, typeInfo, zeroValue, hi, h2, hz, run_asInt', IntWalk.i64_in, hn, storeCells, u8s]
          rw [setRow_self w g cur 5 (0, 0) hg]
        · simp only [Nat.add_zero, length_u8s, List.length_replicate] at hst
          simp [Builtin.append_, run_underlying Tryz.underlying30, run_underlying Tryz.underlying3, sizeOf, typeInfo, zeroValue, hi, h1, h2, hz, run_asInt', hk, hk2, hk3, hroom, h0, hzc, Value.cells, Addr.add_lit, hst]
      · refine ⟨by rw [hlen]; simp, .inr ⟨g, cap, _, by simp, hb, setRow_heap w g cur _ 5 _ hg, by simp; omega, hm, ?_, ?_⟩⟩
        · simp [length_u8s]; omega
        · rw [Nat.mul_one] at ht
          rw [ht, ← u8s_append, Nat.mul_one, ← length_u8s]
          exact List.take_left
      · exact ⟨rfl, rfl, rfl, by simp, fun j _ hj => setRow_other w g j _ (fun e => hj (by simp [Value.ownBlock, e]))⟩
    · have c2 : ¬ (9223372036854775807 < ((xs.length : Int) + (k : Int))) := by omega
      have c3 : ¬ (281474976710656 < Builtin.nextslicecap (xs.length + k) cap) := by
        have := growslice_fits (need := xs.length + k) (old := cap) (bytes := 1) (by omega) (by omega); omega
      have h0 : ¬ k = 0 := by omega
      have holds : ∀ j u, (u8s xs)[j]? = some u → w.drew.cell? ((⟨g, 0, none⟩ : Addr).add j) = some u := fun j u hu => World.ownsRow.cells (w := w) (base := base) (e := 5) (size := 1) (v := .slice (some ⟨g, 0, none⟩) xs.length cap) ⟨e1, .inr ⟨g, cap, cur, rfl, hb, hg, hn, hm, hs', ht⟩⟩ rfl j u hu
      have hfo := run_firstCells_some (P := Tryz.prog) w.drew 1 xs.length ⟨g, 0, none⟩ xs.length cap (u8s xs) (by simp [length_u8s]) holds
      refine ⟨.slice (some ⟨w.heap.size, 0, none⟩) (xs.length + k) (grownCap w (xs.length + k) cap 5), w.drew.alloc (.cells ((u8s xs).toArray ++ (u8s (List.replicate k 0)).toArray ++ Builtin.zeroCells #[Value.int .u8 0] (grownCap w (xs.length + k) cap 5 - (xs.length + k))) 5), ?_, ?_, ?_⟩
      · have hzc := zeroCells_one k
        simp [Builtin.append_, run_underlying Tryz.underlying30, run_underlying Tryz.underlying3, sizeOf, typeInfo, zeroValue, hi, h1, h2, hz, run_asInt', hk, hk2, hk3, hroom, c2, c3, h0, hzc, Question.forced, hfo, newRow, grownCap, Value.cells]
        rw [arr3]
      · have hge := grownCap_ge w (xs.length + k) cap 5
        have hcm := grownCap_le_maxLen w (xs.length + k) cap 5 (by unfold maxLen; omega)
        refine ⟨by rw [hlen]; simp, .inr ⟨w.heap.size, _, _, by simp, hbase, heap_alloc_new w.drew _, by simp; omega, hcm, ?_, ?_⟩⟩
        · simp [size_zeroCells, length_u8s]; omega
        · rw [Nat.mul_one, ← length_u8s (xs ++ List.replicate k 0), u8s_append]
          simp only [Array.toList_append, List.append_assoc, List.length_append]
          exact take3 _ _ _
      · exact (Kp.drew w).trans (Kp.alloc w.drew _) (by simp) |>.mono (by simp)

/-- n noughts. -/
def zeros (n : Nat) : List UInt8 := List.replicate n 0

theorem wpList_append_zeros {w : World} {ops : Array Oper} {rest : List Oper} {o : Oper} {a : Act} {Q : Exit → Act → World → Prop} (hgd : o.guard = none) (s x : Operand)
    (ho : o.op = .call { callee := .builtin .append, args := #[s, x], argTypes := #[30, 3] })
    (base : Nat) (v : Value) (xs : List UInt8) (k : Nat) (K : Int) (hK0 : K = k) (hs : a.eval s = v) (hx : a.eval x = .int .i64 K) (hown : OwnB w base v xs) (hsz : xs.length + k ≤ 1000000) (hbase : base ≤ w.heap.size)
    (h : ∀ v' w', OwnB w' base v' (xs ++ zeros k) → Kp v.ownBlock.toList w w' → wpList Tryz.prog ops Q rest (a.put o.dst v') w') : wpList Tryz.prog ops Q (o :: rest) a w := by
  subst hK0
  refine wpList_plain hgd fun _ hK => ?_
  obtain ⟨v', w', hr, h2, h3⟩ := run_append_zeros o.type k hown hsz hbase
  unfold Oper.wp execOp
  simp only [ho, resolve, invoke, builtin, Sem.run_bind, Sem.run_pure, Result.andThen_ok, List.map_toArray, List.map_cons, List.map_nil, hs, hx, hr]
  exact hK _ _ (h v' w' h2 h3)
end Go.Proofs.YtonkeialdfofcaaGreatDoor
