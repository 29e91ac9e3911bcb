/-
  chain.puts: what it lays; its first loop.
-/
import Derived.Test.YtonkeialdfofcaaGreatDoorLong
namespace Go.Proofs.YtonkeialdfofcaaGreatDoor
open Go.RowKit Go

/-- k homes taken in a row: which, and the bits behind it. -/
def tkB (n : Nat) : Nat → Bs → Option (List Nat × Bs)
  | 0, b => some ([], b)
  | k + 1, b => match freeB b n with
    | none => none
    | some i => match tkB n k (turnB b i) with
      | none => none
      | some (l, b') => some (i :: l, b')

theorem tkB_succ {n k : Nat} {b b' : Bs} {l : List Nat} (h : tkB n (k + 1) b = some (l, b')) : ∃ i l', l = i :: l' ∧ freeB b n = some i ∧ tkB n k (turnB b i) = some (l', b') := by
  unfold tkB at h
  split at h
  · simp at h
  · rename_i i hi
    split at h
    · simp at h
    · rename_i l' b'' hl
      simp only [Option.some.injEq, Prod.mk.injEq] at h
      obtain ⟨rfl, rfl⟩ := h
      exact ⟨i, l', rfl, hi, hl⟩
theorem tkB_len {n : Nat} : ∀ {k : Nat} {b b' : Bs} {l : List Nat}, tkB n k b = some (l, b') → l.length = k
  | 0, b, b', l, h => by simp [tkB] at h; simp [← h.1]
  | k + 1, b, b', l, h => by
    obtain ⟨i, l', rfl, _, h2⟩ := tkB_succ h
    simp [tkB_len h2]
theorem tkB_lt {n : Nat} : ∀ {k : Nat} {b b' : Bs} {l : List Nat}, tkB n k b = some (l, b') → ∀ i ∈ l, 2 ≤ i ∧ i < n
  | 0, b, b', l, h => by simp [tkB] at h; simp [h.1]
  | k + 1, b, b', l, h => by
    obtain ⟨i, l', rfl, h1, h2⟩ := tkB_succ h
    obtain ⟨f1, f2, _⟩ := freeB_some h1
    intro j hj
    rcases List.mem_cons.1 hj with rfl | hj
    · exact ⟨(hasB_lo f2).1, f1⟩
    · exact tkB_lt h2 j hj

/-- A row of ints of the call's own. -/
def iv (i : Nat) : Value := .int .i64 (i : Int)
def OwnI (w : World) (base : Nat) (v : Value) (l : List Nat) : Prop := w.ownsRow base 3 1 v l.length (l.map iv)
theorem OwnI.kp {S : List Nat} {w w' : World} {base : Nat} {v : Value} {l : List Nat} (h : OwnI w base v l) (k : Kp S w w') (hn : ∀ x ∈ v.ownBlock.toList, x ∉ S) : OwnI w' base v l := by
  obtain ⟨h1, h2 | ⟨g, cap, cur, rfl, hb, hg, r⟩⟩ := h
  · exact ⟨h1, .inl h2⟩
  · exact ⟨h1, .inr ⟨g, cap, cur, rfl, hb, k.at hg (hn g (by simp [Value.ownBlock])), r⟩⟩
theorem OwnI.kp0 {w w' : World} {base : Nat} {v : Value} {l : List Nat} (h : OwnI w base v l) (k : Kp [] w w') : OwnI w' base v l := h.kp k (by simp)
theorem OwnI.shape {w : World} {base : Nat} {v : Value} {l : List Nat} (h : OwnI w base v l) : ∃ a c, v = .slice a l.length c := by
  obtain ⟨_, ⟨rfl, h⟩ | ⟨g, cap, cur, rfl, _⟩⟩ := h
  · exact ⟨_, _, by rw [h]⟩
  · exact ⟨_, _, rfl⟩
theorem OwnI.lt {w : World} {base : Nat} {v : Value} {l : List Nat} (h : OwnI w base v l) : ∀ x ∈ v.ownBlock.toList, base ≤ x ∧ x < w.heap.size := by
  intro x hx
  exact World.ownsRow.lt h x (by simpa using hx)
theorem OwnI.noB {w : World} {base : Nat} {v : Value} {l : List Nat} (h : OwnI w base v l) : NoB w v.ownBlock.toList := by
  obtain ⟨_, ⟨rfl, _⟩ | ⟨g, cap, cur, rfl, hb, hg, r⟩⟩ := h
  · exact NoB.nil w
  · exact NoB.cons hg (by simp) (NoB.nil w)
theorem OwnI.cell {w : World} {base : Nat} {b o : Nat} {n c : Nat} {l : List Nat} (h : OwnI w base (.slice (some ⟨b, o, none⟩) n c) l) (i x : Nat) (hx : l[i]? = some x) : w.cell? ⟨b, o + i, none⟩ = some (.int .i64 (x : Int)) := by
  have h' := h
  obtain ⟨_, ⟨e, _⟩ | ⟨g, cap, cur, e, _⟩⟩ := h'
  · simp at e
  · simp only [Value.slice.injEq, Option.some.injEq, Addr.mk.injEq] at e
    obtain ⟨⟨rfl, rfl, _⟩, _, _⟩ := e
    have := World.ownsRow.cells h rfl i (iv x) (by simp [hx])
    rwa [addr_add] at this
theorem infoInt : (Tryz.prog.info? 3).map (fun i => (i.zero, i.size, i.bytes)) = some (some (.int .i64 0), 1, 8) := by kernel_rfl

section
variable {w : World} {t n : Nat} {H : Nat → Bs} {F : List Nat}

theorem chain_bad0 (w : World) : Calls Tryz.prog 146 #[.int .i64 0] w fun e w' => e = .returned .nilIface ∧ w = w' := by
  go_enter Tryz.func146, Tryz.ntmps146
  go_wp2
  go_ret
  exact ⟨rfl, rfl⟩

theorem elem30 : Tryz.prog.elem 30 = 5 := by unfold Program.elem; rw [Tryz.underlying30]
theorem under30 : Tryz.prog.underlying 30 = some (.slice (Tryz.prog.elem 30)) := by rw [elem30]; exact Tryz.underlying30
theorem sized5 (W : World) : (sizeOf (Tryz.prog.elem 30)).run Tryz.prog W = .ok 1 W := by
  obtain ⟨i, hi, hz, h1, h2⟩ := info_parts info5
  rw [elem30]
  simp [sizeOf, typeInfo, hi, h1]

/-- A part of a slice of bytes. -/
theorem BytesAt.cut {w : World} {a : Option Addr} {m c : Nat} {bs : Bs} (h : BytesAt w (.slice a m c) bs) (lo hi : Nat) (h1 : lo ≤ hi) (h2 : hi ≤ bs.length) :
    ∃ v', (∀ W, (Instr.slice 30 (.slice a m c) (some (.int .i64 lo)) (some (.int .i64 hi)) none).run Tryz.prog W = .ok v' W) ∧ BytesAt w v' ((bs.drop lo).take (hi - lo)) := by
  have hcap : hi ≤ c := by
    rcases h with ⟨e, rfl⟩ | ⟨b, off, cap, cs, fz, e, g2, _⟩
    · simp at h2; omega
    · simp only [Value.slice.injEq] at e; omega
  refine ⟨sliced a lo hi c 1, fun W => ?_, ?_⟩
  · rw [run_slice_lh W 30 a m c under30 .i64 .i64 lo hi (by omega) (by omega) (by omega), sized5]
    rfl
  · have el : ((bs.drop lo).take (hi - lo)).length = hi - lo := by simp; omega
    rcases h with ⟨e, rfl⟩ | ⟨b, off, cap, cs, fz, e, g2, g3, g4, g5⟩
    · simp only [Value.slice.injEq] at e
      obtain ⟨rfl, rfl, rfl⟩ := e
      simp at h2
      obtain rfl : hi = 0 := h2
      obtain rfl : lo = 0 := by omega
      exact .inl ⟨rfl, by simp⟩
    · simp only [Value.slice.injEq] at e
      obtain ⟨rfl, rfl, rfl⟩ := e
      by_cases hc : c = lo
      · refine .inr ⟨b, off, c - lo, cs, fz, ?_, by rw [el]; omega, g3, by omega, fun i hi => by rw [el] at hi; omega⟩
        rw [el]; unfold sliced; rw [if_pos hc]
      · refine .inr ⟨b, off + lo, c - lo, cs, fz, ?_, by rw [el]; omega, g3, by omega, fun i hi' => ?_⟩
        · rw [el]; unfold sliced; rw [if_neg hc]; simp [Addr.add]
        · rw [el] at hi'
          rw [Nat.add_assoc, g5 _ (by omega), u8s_get, u8s_get, List.getElem?_take, if_pos hi', List.getElem?_drop]
end
end Go.Proofs.YtonkeialdfofcaaGreatDoor
