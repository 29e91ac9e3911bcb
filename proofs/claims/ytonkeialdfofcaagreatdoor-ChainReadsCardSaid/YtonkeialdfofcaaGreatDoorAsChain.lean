/-
  errors.As at a **chain.fault: its contracts; chain.code. Printed by gen_as.py.
-/
import Derived.Test.YtonkeialdfofcaaGreatDoorLaidOk
import Derived.LaidEql
import Derived.Stop.Asserts
import Derived.RowKitTokens
namespace Go.Proofs.YtonkeialdfofcaaGreatDoor
open Go.RowKit Go.Extern.Stop Go.Stop Go.Extern Go
namespace AsChain

theorem valueOfP (t : Addr) (w : World) : (ReflectliteValue.unpack (.iface 176 (.pointer (some t)))).run Tryz.prog w
    = .ok (.agg #[.pointer (some ⟨1, 176, none⟩), .pointer (some ⟨w.heap.size, 0, none⟩), .int .u64 150]) (w.alloc (.cells #[.pointer (some t)] 176)) := by kernel_rfl
theorem typeP (a : Addr) (w : World) : (ReflectliteValue.methodAny (ReflectliteValue.valueError "reflectlite.Value.Type" 0) (fun t _ _ _ => ReflectliteType.toType t) #[.agg #[.pointer (some ⟨1, 176, none⟩), .pointer (some a), .int .u64 150]]).run Tryz.prog w
    = .ok (.iface 213 (.agg #[.pointer (some ⟨1, 176, none⟩)])) w := by kernel_rfl
theorem kindP (w : World) : ((ReflectliteType.abiMethod fun t => (fun a : Nat => Value.int IntKind.u8 (a : Int)) <$> Rtype.kind t) #[.pointer (some ⟨1, 176, none⟩)]).run Tryz.prog w = .ok (.int .u8 22) w := by kernel_rfl
theorem kindF (w : World) : ((ReflectliteType.abiMethod fun t => (fun a : Nat => Value.int IntKind.u8 (a : Int)) <$> Rtype.kind t) #[.pointer (some ⟨1, 175, none⟩)]).run Tryz.prog w = .ok (.int .u8 22) w := by kernel_rfl
theorem partsP (a : Addr) (w : World) : (ReflectliteValue.parts (.agg #[.pointer (some ⟨1, 176, none⟩), .pointer (some a), .int .u64 150])).run Tryz.prog w = .ok (some (176, a, 150)) w := by kernel_rfl
theorem isNilP (a q : Addr) (W : World) (ha : W.cell? a = some (.pointer (some q))) :
    (ReflectliteValue.method (ReflectliteValue.valueError "reflectlite.Value.IsNil" 0) ReflectliteValue.isNil #[.agg #[.pointer (some ⟨1, 176, none⟩), .pointer (some a), .int .u64 150]]).run Tryz.prog W = .ok (.bool false) W := by
  rw [rlm]
  simp only [Sem.run_bind, partsP, Result.andThen]
  simp [ReflectliteValue.isNil, loadVar, isAgg, underlying, Tryz.underlying176, ha, Result.andThen]
theorem elemP (w : World) : (ReflectliteType.method ReflectliteType.elem #[.agg #[.pointer (some ⟨1, 176, none⟩)]]).run Tryz.prog w = .ok (.iface 213 (.agg #[.pointer (some ⟨1, 175, none⟩)])) w := by kernel_rfl
theorem implF (w : World) : (ReflectliteType.relation "Implements" ReflectliteType.implements_ #[.agg #[.pointer (some ⟨1, 175, none⟩)], .iface 213 (.agg #[.pointer (some ⟨1, 120, none⟩)])]).run Tryz.prog w = .ok (.bool true) w := by kernel_rfl
theorem typeOfF (v : Value) (w : World) : (ReflectliteType.typeOf #[.iface 175 v]).run Tryz.prog w = .ok (.iface 213 (.agg #[.pointer (some ⟨1, 175, none⟩)])) w := by kernel_rfl
theorem assignF (w : World) : (ReflectliteType.relation "AssignableTo" ReflectliteType.assignableTo #[.agg #[.pointer (some ⟨1, 175, none⟩)], .iface 213 (.agg #[.pointer (some ⟨1, 175, none⟩)])]).run Tryz.prog w = .ok (.bool true) w := by kernel_rfl
theorem valueOfF (e : Addr) (w : World) : (ReflectliteValue.unpack (.iface 175 (.pointer (some e)))).run Tryz.prog w
    = .ok (.agg #[.pointer (some ⟨1, 175, none⟩), .pointer (some ⟨w.heap.size, 0, none⟩), .int .u64 150]) (w.alloc (.cells #[.pointer (some e)] 175)) := by kernel_rfl
theorem elemOfP (w : World) : (Rtype.elem? 176).run Tryz.prog w = .ok (some 175) w := by kernel_rfl
theorem mkF (q : Addr) (w : World) : (ReflectliteValue.mk 175 q ReflectliteValue.flagAddr).run Tryz.prog w = .ok (.agg #[.pointer (some ⟨1, 175, none⟩), .pointer (some q), .int .u64 406]) w := by kernel_rfl
theorem elemV (a q : Addr) (W : World) (ha : W.cell? a = some (.pointer (some q))) :
    (ReflectliteValue.method (ReflectliteValue.valueError "reflectlite.Value.Elem" 0) ReflectliteValue.elem #[.agg #[.pointer (some ⟨1, 176, none⟩), .pointer (some a), .int .u64 150]]).run Tryz.prog W
      = .ok (.agg #[.pointer (some ⟨1, 175, none⟩), .pointer (some q), .int .u64 406]) W := by
  rw [rlm]
  simp only [Sem.run_bind, partsP, Result.andThen]
  simp [ReflectliteValue.elem, loadVar, isAgg, underlying, Tryz.underlying176, ha, Result.andThen, elemOfP, mkF]
theorem partsFa (a : Addr) (w : World) : (ReflectliteValue.parts (.agg #[.pointer (some ⟨1, 175, none⟩), .pointer (some a), .int .u64 406])).run Tryz.prog w = .ok (some (175, a, 406)) w := by kernel_rfl
theorem partsF (a : Addr) (w : World) : (ReflectliteValue.parts (.agg #[.pointer (some ⟨1, 175, none⟩), .pointer (some a), .int .u64 150])).run Tryz.prog w = .ok (some (175, a, 150)) w := by kernel_rfl
theorem directF (w : World) : (Rtype.directlyAssignable 175 175).run Tryz.prog w = .ok true w := by kernel_rfl
theorem setF (ta b e : Addr) (old : Value) (W : World) (hb : W.cell? b = some (.pointer (some e))) (ht : W.cell? ta = some old) (hf : W.frozen? ta = false) :
    (ReflectliteValue.set #[.agg #[.pointer (some ⟨1, 175, none⟩), .pointer (some ta), .int .u64 406], .agg #[.pointer (some ⟨1, 175, none⟩), .pointer (some b), .int .u64 150]]).run Tryz.prog W
      = .ok (.tuple #[]) (W.setCell ta (.pointer (some e))) := by
  rw [rls]
  simp only [Sem.run_bind, partsFa, partsF, Result.andThen]
  simp [ReflectliteValue.flagAddr, loadVar, isAgg, underlying, Tryz.underlying175, hb, Result.andThen, directF, storeVar, Value.cells, storeCells, Addr.add]
  rw [run_store Tryz.prog W ta _ _ (by rfl)]
  simp [ht, hf]

set_option maxHeartbeats 4000000 in
/-- errors.as where the error itself is the target's kind. -/
theorem as_hit (e t bv : Addr) (old : Value) (w : World) (hbv : w.cell? bv = some (.pointer (some t))) (ht0 : w.cell? t = some old) (hf0 : w.frozen? t = false) :
    Calls Tryz.prog 157 #[.iface 175 (.pointer (some e)), .iface 176 (.pointer (some t)), .agg #[.pointer (some ⟨1, 176, none⟩), .pointer (some bv), .int .u64 150], .iface 213 (.agg #[.pointer (some ⟨1, 175, none⟩)])] w fun ev w' => ev = .returned (.bool true) ∧ w'.cell? t = some (.pointer (some e)) ∧ Kp [t.block] w w' := by
  have h154 := @run_callFunc_extern Tryz.prog 154 _ (fun args => ReflectliteValue.unpack (args.getD 0 (.tuple #[]))) Tryz.func154 (by kernel_rfl) (by kernel_rfl) (by kernel_rfl) (by kernel_rfl)
  have h166 := @run_callFunc_extern Tryz.prog 166 _ ReflectliteType.typeOf Tryz.func166 (by kernel_rfl) (by kernel_rfl) (by kernel_rfl) (by kernel_rfl)
  have h218 := @run_callFunc_extern Tryz.prog 218 _ (ReflectliteType.relation "AssignableTo" ReflectliteType.assignableTo) Tryz.func218 (by kernel_rfl) (by kernel_rfl) (by kernel_rfl) (by kernel_rfl)
  have h167 := @run_callFunc_extern Tryz.prog 167 _ (ReflectliteValue.method (ReflectliteValue.valueError "reflectlite.Value.Elem" 0) ReflectliteValue.elem) Tryz.func167 (by kernel_rfl) (by kernel_rfl) (by kernel_rfl) (by kernel_rfl)
  have h168 := @run_callFunc_extern Tryz.prog 168 _ ReflectliteValue.set Tryz.func168 (by kernel_rfl) (by kernel_rfl) (by kernel_rfl) (by kernel_rfl)
  have tO := typeOfF
  have mA := methodAssignableTo
  have aF := assignF
  have vF := valueOfF
  have htl : t.block < w.heap.size := lt_of_cell ht0
  have hbl : bv.block < w.heap.size := lt_of_cell hbv
  have el := elemV bv t (w.alloc (.cells #[.pointer (some ⟨1, 176, none⟩), .pointer (some bv), .int .u64 150] 188)) (by rw [World.cell?_alloc_lt _ _ bv hbl]; exact hbv)
  have st := setF t ⟨w.heap.size + 1, 0, none⟩ e old ((w.alloc (.cells #[.pointer (some ⟨1, 176, none⟩), .pointer (some bv), .int .u64 150] 188)).alloc (.cells #[.pointer (some e)] 175))
    (by rw [World.cell?_alloc_at _ _ _ _ (by simp)]; rfl)
    (by rw [World.cell?_alloc_lt _ _ t (by simp; omega), World.cell?_alloc_lt _ _ t htl]; exact ht0)
    (by rw [World.frozen?_alloc_old _ _ t (by simp; omega), World.frozen?_alloc_old _ _ t (Nat.ne_of_lt htl)]; exact hf0)
  have HT := Lib.hid ht0
  have HTL := Lib.hid htl
  clear hbv ht0 hf0 htl hbl
  go_enter Tryz.func157, Tryz.ntmps157
  go_wp2
  refine wp_loop_rounds 1 ?_
  rw [rounds_succ]
  go_wp2
  go_ret
  refine ⟨rfl, ?_, ?_⟩
  · refine World.cell?_setCell_same _ _ _ (u := old) ?_
    rw [World.cell?_alloc_lt _ _ t (by have := HTL.out; simp; omega), World.cell?_alloc_lt _ _ t HTL.out]; exact HT.out
  · exact (((Kp.alloc _ _).and (Kp.alloc _ _)).mono (by simp)).and (Kp.setCell _ _ _)

theorem typeOfL (v : Value) (w : World) : (ReflectliteType.typeOf #[.iface 201 v]).run Tryz.prog w = .ok (.iface 213 (.agg #[.pointer (some ⟨1, 201, none⟩)])) w := by kernel_rfl
theorem assignL (w : World) : (ReflectliteType.relation "AssignableTo" ReflectliteType.assignableTo #[.agg #[.pointer (some ⟨1, 201, none⟩)], .iface 213 (.agg #[.pointer (some ⟨1, 175, none⟩)])]).run Tryz.prog w = .ok (.bool false) w := by kernel_rfl
theorem noAsL (v : Value) (xT : TypeId) (w : World) : (Instr.typeAssert (.iface 201 v) xT 218 true).run Tryz.prog w = .ok (.tuple #[.nilIface, .bool false]) w :=
  run_typeAssert_lacksB Tryz.underlying218 (by kernel_rfl) (by kernel_rfl) v xT w
theorem unwL (v : Value) (xT : TypeId) (w : World) : (Instr.typeAssert (.iface 201 v) xT 221 true).run Tryz.prog w = .ok (.tuple #[.iface 201 v, .bool true]) w :=
  run_typeAssert_hasB Tryz.underlying221 (by kernel_rfl) v xT w
theorem methodUnwL (a : Addr) (w : World) : (Go.method 376 201 (.pointer (some a)) "Unwrap").run Tryz.prog w = .ok (215, .pointer (some a)) w := by kernel_rfl
theorem nilAheadL (a : Addr) (w : World) : (nilAhead 376 201 (.pointer (some a)) "Unwrap").run Tryz.prog w = .ok (some false) w := by kernel_rfl
theorem unwrap_ok (b : Nat) (v : Value) (w : World) (h : w.heap[b]? = some (.cells #[v] 203 (0, 0))) :
    Calls Tryz.prog 215 #[.pointer (some ⟨b, 0, none⟩)] w fun e w' => e = .returned v ∧ w = w' := by
  have c0 := cell_of h 0 (v := v) rfl
  clear h
  go_enter Tryz.func215, Tryz.ntmps215
  go_wp2
  go_ret
  exact ⟨rfl, rfl⟩

set_option maxHeartbeats 4000000 in
/-- errors.as where the error wraps one of the target's kind. -/
theorem as_wrap (b b' : Nat) (t bv : Addr) (old : Value) (w : World) (hb : w.heap[b]? = some (.cells #[.iface 175 (.pointer (some ⟨b', 0, none⟩))] 203 (0, 0))) (hbv : w.cell? bv = some (.pointer (some t))) (ht0 : w.cell? t = some old) (hf0 : w.frozen? t = false) :
    Calls Tryz.prog 157 #[.iface 201 (.pointer (some ⟨b, 0, none⟩)), .iface 176 (.pointer (some t)), .agg #[.pointer (some ⟨1, 176, none⟩), .pointer (some bv), .int .u64 150], .iface 213 (.agg #[.pointer (some ⟨1, 175, none⟩)])] w fun ev w' => ev = .returned (.bool true) ∧ w'.cell? t = some (.pointer (some ⟨b', 0, none⟩)) ∧ Kp [t.block] w w' := by
  have h154 := @run_callFunc_extern Tryz.prog 154 _ (fun args => ReflectliteValue.unpack (args.getD 0 (.tuple #[]))) Tryz.func154 (by kernel_rfl) (by kernel_rfl) (by kernel_rfl) (by kernel_rfl)
  have h166 := @run_callFunc_extern Tryz.prog 166 _ ReflectliteType.typeOf Tryz.func166 (by kernel_rfl) (by kernel_rfl) (by kernel_rfl) (by kernel_rfl)
  have h218 := @run_callFunc_extern Tryz.prog 218 _ (ReflectliteType.relation "AssignableTo" ReflectliteType.assignableTo) Tryz.func218 (by kernel_rfl) (by kernel_rfl) (by kernel_rfl) (by kernel_rfl)
  have h167 := @run_callFunc_extern Tryz.prog 167 _ (ReflectliteValue.method (ReflectliteValue.valueError "reflectlite.Value.Elem" 0) ReflectliteValue.elem) Tryz.func167 (by kernel_rfl) (by kernel_rfl) (by kernel_rfl) (by kernel_rfl)
  have h168 := @run_callFunc_extern Tryz.prog 168 _ ReflectliteValue.set Tryz.func168 (by kernel_rfl) (by kernel_rfl) (by kernel_rfl) (by kernel_rfl)
  have tO := typeOfF
  have mA := methodAssignableTo
  have aF := assignF
  have vF := valueOfF
  have tL := typeOfL
  have aL := assignL
  have nA := noAsL
  have uL := unwL
  have mU := methodUnwL
  have nL := nilAheadL
  have htl : t.block < w.heap.size := lt_of_cell ht0
  have hbl : bv.block < w.heap.size := lt_of_cell hbv
  have el := elemV bv t (w.alloc (.cells #[.pointer (some ⟨1, 176, none⟩), .pointer (some bv), .int .u64 150] 188)) (by rw [World.cell?_alloc_lt _ _ bv hbl]; exact hbv)
  have st := setF t ⟨w.heap.size + 1, 0, none⟩ ⟨b', 0, none⟩ old ((w.alloc (.cells #[.pointer (some ⟨1, 176, none⟩), .pointer (some bv), .int .u64 150] 188)).alloc (.cells #[.pointer (some ⟨b', 0, none⟩)] 175))
    (by rw [World.cell?_alloc_at _ _ _ _ (by simp)]; rfl)
    (by rw [World.cell?_alloc_lt _ _ t (by simp; omega), World.cell?_alloc_lt _ _ t htl]; exact ht0)
    (by rw [World.frozen?_alloc_old _ _ t (by simp; omega), World.frozen?_alloc_old _ _ t (Nat.ne_of_lt htl)]; exact hf0)
  have HT := Lib.hid ht0
  have HTL := Lib.hid htl
  have HB := Lib.hid hb
  clear hbv ht0 hf0 htl hbl hb
  go_enter Tryz.func157, Tryz.ntmps157
  go_wp2
  refine wp_loop_rounds 2 ?_
  rw [rounds_succ]
  go_wp2_with (go_at_call 215; refine (unwrap_ok b _ _ ((Kp.alloc _ _).at HB.out (by simp))).mono ?_; rintro e w1 ⟨rfl, rfl⟩)
  rw [rounds_succ]
  go_wp2
  go_ret
  refine ⟨rfl, ?_, ?_⟩
  · refine World.cell?_setCell_same _ _ _ (u := old) ?_
    rw [World.cell?_alloc_lt _ _ t (by have := HTL.out; simp; omega), World.cell?_alloc_lt _ _ t HTL.out]; exact HT.out
  · exact (((Kp.alloc _ _).and (Kp.alloc _ _)).mono (by simp)).and (Kp.setCell _ _ _)

/-- An error of a code; nil: 0. -/
def IsE (w : World) (v : Value) (c : Int) : Prop :=
  (c = 0 ∧ v = .nilIface) ∨ (c ≠ 0 ∧ ∃ b b', v = .iface 201 (.pointer (some ⟨b, 0, none⟩)) ∧ w.heap[b]? = some (.cells #[.iface 175 (.pointer (some ⟨b', 0, none⟩))] 203 (0, 0)) ∧ w.heap[b']? = some (.cells #[.int .i64 c] 178 (0, 0)))
theorem IsE.kp0 {w w' : World} {v : Value} {c : Int} (h : IsE w v c) (k : Kp [] w w') : IsE w' v c := by
  rcases h with h | ⟨h1, b, b', h2, h3, h4⟩
  · exact .inl h
  · exact .inr ⟨h1, b, b', h2, k.at h3 (by simp), k.at h4 (by simp)⟩
theorem as_any (v : Value) (c : Int) (t bv : Addr) (old : Value) (w : World) (h : IsE w v c) (hc : c ≠ 0) (htb : ∃ cs fz, w.heap[t.block]? = some (.cells cs 175 fz)) (hbv : w.cell? bv = some (.pointer (some t))) (ht0 : w.cell? t = some old) (hf0 : w.frozen? t = false) :
    Calls Tryz.prog 157 #[v, .iface 176 (.pointer (some t)), .agg #[.pointer (some ⟨1, 176, none⟩), .pointer (some bv), .int .u64 150], .iface 213 (.agg #[.pointer (some ⟨1, 175, none⟩)])] w fun ev w' => ev = .returned (.bool true) ∧ (∃ b', w'.cell? t = some (.pointer (some ⟨b', 0, none⟩)) ∧ w'.cell? ⟨b', 0, none⟩ = some (.int .i64 c)) ∧ Kp [t.block] w w' := by
  rcases h with ⟨h, _⟩ | ⟨_, b, b', rfl, h3, h4⟩
  · exact absurd h hc
  · obtain ⟨cs, fz, htb⟩ := htb
    have hne : b' ∉ [t.block] := fun hc => by
      have : b' = t.block := by simpa using hc
      rw [this, htb] at h4; simp at h4
    exact (as_wrap b b' t bv old w h3 hbv ht0 hf0).mono fun e w' ⟨h5, h6, h7⟩ => ⟨h5, ⟨b', h6, h7.acell (cell_of h4 0 rfl) hne⟩, h7⟩
theorem IsE.form {w : World} {v : Value} {c : Int} (h : IsE w v c) (hc : c ≠ 0) : ∃ T x, v = .iface T x := by
  rcases h with ⟨h, _⟩ | ⟨_, b, x, rfl, h3⟩
  · exact absurd h hc
  · exact ⟨_, _, rfl⟩
theorem IsE.nil {w : World} {v : Value} (h : IsE w v 0) : v = .nilIface := by
  rcases h with ⟨_, h⟩ | ⟨h, _⟩
  · exact h
  · exact absurd rfl h
set_option maxHeartbeats 4000000 in
theorem As_ok (v : Value) (c : Int) (t : Addr) (old : Value) (w : World) (h : IsE w v c) (hc : c ≠ 0) (hl : LaidOk w) (htb : ∃ cs fz, w.heap[t.block]? = some (.cells cs 175 fz)) (ht0 : w.cell? t = some old) (hf0 : w.frozen? t = false) :
    Calls Tryz.prog 127 #[v, .iface 176 (.pointer (some t))] w fun ev w' => ev = .returned (.bool true) ∧ (∃ b', w'.cell? t = some (.pointer (some ⟨b', 0, none⟩)) ∧ w'.cell? ⟨b', 0, none⟩ = some (.int .i64 c)) ∧ Kp [t.block] w w' := by
  obtain ⟨T0, x0, rfl⟩ := h.form hc
  have HE := Lib.hid h
  have htl : t.block < w.heap.size := lt_of_cell ht0
  have h154 := @run_callFunc_extern Tryz.prog 154 _ (fun args => ReflectliteValue.unpack (args.getD 0 (.tuple #[]))) Tryz.func154 (by kernel_rfl) (by kernel_rfl) (by kernel_rfl) (by kernel_rfl)
  have h155 := @run_callFunc_extern Tryz.prog 155 _ (ReflectliteValue.methodAny (ReflectliteValue.valueError "reflectlite.Value.Type" 0) (fun t _ _ _ => ReflectliteType.toType t)) Tryz.func155 (by kernel_rfl) (by kernel_rfl) (by kernel_rfl) (by kernel_rfl)
  have h156 := @run_callFunc_extern Tryz.prog 156 _ (ReflectliteValue.method (ReflectliteValue.valueError "reflectlite.Value.IsNil" 0) ReflectliteValue.isNil) Tryz.func156 (by kernel_rfl) (by kernel_rfl) (by kernel_rfl) (by kernel_rfl)
  have h203 := @run_callFunc_extern Tryz.prog 203 _ (ReflectliteType.abiMethod fun t => do pure (.int .u8 (← Rtype.kind t))) Tryz.func203 (by kernel_rfl) (by kernel_rfl) (by kernel_rfl) (by kernel_rfl)
  have h220 := @run_callFunc_extern Tryz.prog 220 _ (ReflectliteType.method ReflectliteType.elem) Tryz.func220 (by kernel_rfl) (by kernel_rfl) (by kernel_rfl) (by kernel_rfl)
  have h221 := @run_callFunc_extern Tryz.prog 221 _ (ReflectliteType.relation "Implements" ReflectliteType.implements_) Tryz.func221 (by kernel_rfl) (by kernel_rfl) (by kernel_rfl) (by kernel_rfl)
  have f6 := valueOfP
  have f7 := typeP
  have mK := methodKind
  have mE := methodElem
  have mI := methodImplements
  have kP := kindP
  have kF := kindF
  have eP := elemP
  have iF := implF
  have n8 := isNilP ⟨w.heap.size, 0, none⟩ t ((w.alloc (.cells #[.pointer (some t)] 176)).alloc (.cells #[.pointer (some ⟨1, 176, none⟩), .pointer (some ⟨w.heap.size, 0, none⟩), .int .u64 150] 188)) (by simp)
  have hg2 : ((w.alloc (.cells #[.pointer (some t)] 176)).alloc (.cells #[.pointer (some ⟨1, 176, none⟩), .pointer (some ⟨w.heap.size, 0, none⟩), .int .u64 150] 188)).cell? ⟨0, 0, none⟩ = some (.iface 213 (.agg #[.pointer (some ⟨1, 120, none⟩)])) := (hl.kp0 (Kp.alloc _ _)).kp0 (Kp.alloc _ _)
  have hcall := Lib.hid (as_any _ c t ⟨w.heap.size, 0, none⟩ old ((w.alloc (.cells #[.pointer (some t)] 176)).alloc (.cells #[.pointer (some ⟨1, 176, none⟩), .pointer (some ⟨w.heap.size, 0, none⟩), .int .u64 150] 188)) (h.kp0 ((Kp.alloc _ _).and (Kp.alloc _ _))) hc (by obtain ⟨cs, fz, e⟩ := htb; exact ⟨cs, fz, ((Kp.alloc w _).and (Kp.alloc _ _)).at e (by simp)⟩) (by simp)
    (by rw [World.cell?_alloc_lt _ _ t (by simp; omega), World.cell?_alloc_lt _ _ t htl]; exact ht0)
    (by rw [World.frozen?_alloc_old _ _ t (by simp; omega), World.frozen?_alloc_old _ _ t (Nat.ne_of_lt htl)]; exact hf0))
  clear h hc ht0 hf0 htl hl htb
  go_enter Tryz.func127, Tryz.ntmps127
  go_wp2_with (go_at_call 157; refine hcall.out.mono ?_; rintro e w1 ⟨rfl, hb, hk⟩)
  go_ret
  exact ⟨rfl, hb, (((Kp.alloc _ _).and (Kp.alloc _ _)).mono (by simp)).and hk⟩

set_option maxHeartbeats 2000000 in
theorem code_ok (v : Value) (c : Int) (w : World) (h : IsE w v c) (hl : LaidOk w) :
    Calls Tryz.prog 113 #[v] w fun e w' => e = .returned (.int .i64 c) ∧ Kp [] w w' := by
  by_cases hc : c = 0
  · subst hc
    obtain rfl := h.nil
    clear h
    go_enter Tryz.func113, Tryz.ntmps113
    go_wp2_with (go_at_call 127; refine (as_nil _ _).mono ?_; rintro e w' ⟨rfl, rfl⟩)
    go_ret
    exact ⟨rfl, Kp.alloc _ _⟩
  · obtain ⟨T0, x0, rfl⟩ := h.form hc
    have HA := Lib.hid (As_ok _ c ⟨w.heap.size, 0, none⟩ (.pointer none) (w.alloc (.cells #[.pointer none] 175)) (h.kp0 (Kp.alloc _ _)) hc (hl.kp0 (Kp.alloc _ _)) ⟨_, _, blk_alloc_new _ _⟩ (by simp) (by simp))
    clear h hl hc
    go_enter Tryz.func113, Tryz.ntmps113
    go_wp2_with (go_at_call 127; refine HA.out.mono ?_; rintro e w1 ⟨rfl, ⟨b', h1, h2⟩, hk⟩; have HK := Lib.hid hk; clear hk)
    go_ret
    exact ⟨rfl, (Kp.alloc _ _).trans HK.out (by simp)⟩
end AsChain
end Go.Proofs.YtonkeialdfofcaaGreatDoor
