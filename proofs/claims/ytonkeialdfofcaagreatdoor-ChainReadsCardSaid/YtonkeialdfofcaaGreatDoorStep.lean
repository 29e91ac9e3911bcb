/-
  append of bytes, of an int, as one step of a region that draws its order.
-/
import Derived.Test.YtonkeialdfofcaaGreatDoorRd
namespace Go.Proofs.YtonkeialdfofcaaGreatDoor
open Go.RowKit Go

theorem OwnB.kpN {S : List Nat} {w w' : World} {base : Nat} {v : Value} {bs : List UInt8} (h : OwnB w base v bs) (k : Kp S w w') (hn : NoB w S) : OwnB w' base v bs := by
  obtain ⟨h1, h2 | ⟨g, cap, cur, rfl, hb, hg, r⟩⟩ := h
  · exact ⟨h1, .inl h2⟩
  · exact ⟨h1, .inr ⟨g, cap, cur, rfl, hb, k.at hg (fun c => hn g c _ _ hg), r⟩⟩
theorem OwnB.isB {w : World} {base : Nat} {v : Value} {bs : List UInt8} (h : OwnB w base v bs) : ∀ b ∈ v.ownBlock.toList, ∃ cs fz, w.heap[b]? = some (.cells cs 5 fz) := by
  obtain ⟨_, ⟨rfl, _⟩ | ⟨g, cap, cur, rfl, hb, hg, r⟩⟩ := h
  · intro b hb; simp [Value.ownBlock] at hb
  · intro b hb
    simp [Value.ownBlock] at hb
    subst hb
    exact ⟨_, _, hg⟩
theorem OwnI.kpB {S : List Nat} {w w' : World} {base : Nat} {v : Value} {l : List Nat} (h : OwnI w base v l) (k : Kp S w w') (hn : ∀ b ∈ S, ∃ cs fz, w.heap[b]? = some (.cells cs 5 fz)) : OwnI w' base v l :=
  h.kp k fun x hx c => by
    obtain ⟨cs, fz, e⟩ := hn x c
    obtain ⟨_, ⟨rfl, _⟩ | ⟨g, cap, cur, rfl, hb, hg, r⟩⟩ := h
    · simp [Value.ownBlock] at hx
    · simp [Value.ownBlock] at hx
      subst hx
      rw [hg] at e; simp at e

theorem step_append_bytes {w : World} {ops : Array Oper} {o : Oper} {a : Act} {K : Act → World → Prop} {Q : Exit → Act → World → Prop} {E : Prop} (hgd : o.guard = none) (s x : Operand)
    (ho : o.op = .call { callee := .builtin .append, args := #[s, x], argTypes := #[30, 30] })
    (base : Nat) (v xv : Value) (xs bs : List UInt8) (hs : a.eval s = v) (hx : a.eval x = xv) (hown : OwnB w base v xs) (hb : BytesAt w xv bs) (hsz : xs.length + bs.length ≤ 1000000) (hbase : base ≤ w.heap.size)
    (h : ∀ v' w', OwnB w' base v' (xs ++ bs) → Kp v.ownBlock.toList w w' → K (a.put o.dst v') w') :
    if Region.wanted o (yielded ops a.tmps) = true then Oper.wp Tryz.prog o a w K Q else E := by
  have hw : Region.wanted o (yielded ops a.tmps) = true := by simp [Region.wanted, hgd]
  rw [if_pos hw]
  obtain ⟨v', w', hr, h2, h3⟩ := run_append_bytes o.type hown hb hsz hbase
  unfold Oper.wp execOp
  simp only [ho, resolve, invoke, builtin, Sem.run_bind, Sem.run_pure, Result.andThen_ok, List.map_toArray, List.map_cons, List.map_nil, hs, hx, hr]
  exact h v' w' h2 h3

theorem step_append_int {w : World} {ops : Array Oper} {o : Oper} {a : Act} {K : Act → World → Prop} {Q : Exit → Act → World → Prop} {E : Prop} (hgd : o.guard = none) (s x : Operand)
    (ho : o.op = .call { callee := .builtin .append, args := #[s, x], argTypes := #[124, 124] })
    (base : Nat) (v : Value) (l : List Nat) (i b c : Nat) (hs : a.eval s = v) (hx : a.eval x = .slice (some ⟨b, 0, none⟩) 1 c) (hown : OwnI w base v l) (hb : w.cell? ⟨b, 0, none⟩ = some (.int .i64 (i : Int))) (hsz : l.length ≤ 1000000) (hbase : base ≤ w.heap.size)
    (h : ∀ v' w', OwnI w' base v' (l ++ [i]) → Kp v.ownBlock.toList w w' → K (a.put o.dst v') w') :
    if Region.wanted o (yielded ops a.tmps) = true then Oper.wp Tryz.prog o a w K Q else E := by
  obtain ⟨ii, hi, hz, h1, h2⟩ := info_parts infoInt
  refine step_append_own hgd s x 124 ho base 3 ii _ 1 8 Tryz.underlying124 hi hz h1 h2 rfl (by decide) v l.length (l.map iv) hs hown ⟨b, 0, none⟩ 1 c [iv i] hx (by simp) (fun j u hu => ?_) (by simp [iv, Value.oneCell']) (by unfold maxLen; omega) (by omega) hbase fun v' w' ho' hg _ => h v' w' ?_ (Kp.of_grown hg)
  · have hj : j = 0 := by have := (List.getElem?_eq_some_iff.1 hu).1; simpa using this
    subst hj
    rw [addr_add]
    simp at hu
    rw [← hu]; exact hb
  · unfold OwnI
    rw [List.map_append, List.length_append]
    exact ho'
end Go.Proofs.YtonkeialdfofcaaGreatDoor
