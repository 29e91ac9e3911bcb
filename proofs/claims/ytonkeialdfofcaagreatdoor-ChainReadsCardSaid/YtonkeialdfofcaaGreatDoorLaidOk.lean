/-
  The listed variable's cell as a fact on a world; what all of errors.As's contracts share.
-/
import Derived.Test.YtonkeialdfofcaaGreatDoorBase2
import Derived.Stop.Asserts
import Derived.LaidEql
import Derived.RowKitTokens
namespace Go.Proofs.YtonkeialdfofcaaGreatDoor
open Go.RowKit Go.Extern.Stop Go.Stop Go.Extern Go

/-- errors.errorType holds the handle of the type 'error'. -/
def LaidOk (W : World) : Prop := W.cell? ⟨0, 0, none⟩ = some (.iface 213 (.agg #[.pointer (some ⟨1, 120, none⟩)]))

theorem lt_of_cell {w : World} {a : Addr} {v : Value} (h : w.cell? a = some v) : a.block < w.heap.size := by
  rcases Nat.lt_or_ge a.block w.heap.size with h' | h'
  · exact h'
  · simp [World.cell?, Array.getElem?_eq_none h'] at h
theorem Kp.acell {S : List Nat} {w w' : World} (k : Kp S w w') {a : Addr} {v : Value} (h : w.cell? a = some v) (hn : a.block ∉ S) : w'.cell? a = some v := by
  have hb := k.blk a.block (lt_of_cell h) hn
  rw [← h]
  exact World.cell?_of_block (w := w) hb
theorem Kp.afrozen {S : List Nat} {w w' : World} (k : Kp S w w') {a : Addr} (h : a.block < w.heap.size) (hn : a.block ∉ S) : w'.frozen? a = w.frozen? a :=
  World.frozen?_of_block (w := w) (k.blk a.block h hn)
theorem LaidOk.lt {w : World} (h : LaidOk w) : 0 < w.heap.size := lt_of_cell h
theorem LaidOk.kp {S : List Nat} {w w' : World} (h : LaidOk w) (k : Kp S w w') (hn : 0 ∉ S) : LaidOk w' := Kp.acell (a := ⟨0, 0, none⟩) k h hn
theorem LaidOk.kp0 {w w' : World} (h : LaidOk w) (k : Kp [] w w') : LaidOk w' := h.kp k (by simp)

theorem rlm (z : Sem Value) (f : TypeId → Addr → Nat → Nat → Sem Value) (v : Value) :
    ReflectliteValue.method z f #[v] = (do match ← ReflectliteValue.parts v with | none => z | some (t, a, fl) => f t a fl (fl % 32)) := rfl
theorem rls (v x : Value) : ReflectliteValue.set #[v, x] = (do
    let (some (dst, a, fl), some (src, b, _)) := (← ReflectliteValue.parts v, ← ReflectliteValue.parts x)
      | unsupported (.noEntry "extern/(internal/reflectlite.Value).Set.zeroValue")
    if fl / ReflectliteValue.flagAddr % 2 == 0 then unsupported (.noEntry "extern/(internal/reflectlite.Value).Set.unaddressable")
    let val ← loadVar src b
    if ← Rtype.directlyAssignable dst src then storeVar dst a val
    else if ← Rtype.implements dst src then
      if (← Rtype.kind src) == 20 then
        match val with
        | .nilIface => unsupported (.noEntry "extern/reflectlite: a nil value of one interface type handed on as a value of another")
        | _ => storeVar dst a val
      else storeVar dst a (.iface src val)
    else panicString ("reflectlite.Set: value of type " ++ (← Rtype.spelt src) ++ " is not assignable to type " ++ (← Rtype.spelt dst))
    pure (.tuple #[])) := rfl
theorem methodKind (h : Value) (w : World) : (Go.method 376 213 (.agg #[h]) "Kind").run Tryz.prog w = .ok (203, h) w := by kernel_rfl
theorem methodElem (h : Value) (w : World) : (Go.method 376 213 (.agg #[h]) "Elem").run Tryz.prog w = .ok (220, .agg #[h]) w := by kernel_rfl
theorem methodImplements (h : Value) (w : World) : (Go.method 376 213 (.agg #[h]) "Implements").run Tryz.prog w = .ok (221, .agg #[h]) w := by kernel_rfl
theorem methodAssignableTo (h : Value) (w : World) : (Go.method 376 213 (.agg #[h]) "AssignableTo").run Tryz.prog w = .ok (218, .agg #[h]) w := by kernel_rfl

theorem as_nil (t : Value) (w : World) :
    Calls Tryz.prog 127 #[.nilIface, t] w fun e w' => e = .returned (.bool false) ∧ w = w' := by
  go_enter Tryz.func127, Tryz.ntmps127
  go_wp2
  go_ret
  exact ⟨rfl, rfl⟩
end Go.Proofs.YtonkeialdfofcaaGreatDoor
