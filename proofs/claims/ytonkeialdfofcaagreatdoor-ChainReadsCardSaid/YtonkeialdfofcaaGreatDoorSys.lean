/-
  A transaction over its log as one thing: n homes that read as H says. space.SetRoot, space.Format, scriptorylaw21.New.
-/
import Derived.Test.YtonkeialdfofcaaGreatDoorTx2
namespace Go.Proofs.YtonkeialdfofcaaGreatDoor
open Go.RowKit Go

/-- A live transaction, n homes, which read as H says; its calls turn the blocks F alone. -/
def TxSys (w : World) (t n : Nat) (H : Nat → Bs) (F : List Nat) : Prop :=
  ∃ l bmt al T f p bl bm bm' D L, F = [l, bmt] ∧ TxAt w t l bmt false al T ∧ LgS w l n f p bl bm bm' D L ∧ bmt ≠ bm ∧ bmt ≠ bm' ∧ T.length = n ∧ ∀ i, i < n → txH T f i = H i

section
variable {w : World} {t n : Nat} {H : Nat → Bs} {F : List Nat}

theorem TxSys.kp0 {w' : World} (h : TxSys w t n H F) (k : Kp [] w w') : TxSys w' t n H F := by
  obtain ⟨l, bmt, al, T, f, p, bl, bm, bm', D, L, h1, h2, h3, h4⟩ := h
  exact ⟨l, bmt, al, T, f, p, bl, bm, bm', D, L, h1, h2.kp0 k, h3.kp0 k, h4⟩
theorem TxSys.noB (h : TxSys w t n H F) : NoB w F := by
  obtain ⟨l, bmt, al, T, f, p, bl, bm, bm', D, L, rfl, h2, h3, _⟩ := h
  obtain ⟨cs, ho⟩ := h3.own
  exact NoB.cons ho (by simp) h2.noB
theorem TxSys.lt (h : TxSys w t n H F) : ∀ x ∈ F, x < w.heap.size := by
  obtain ⟨l, bmt, al, T, f, p, bl, bm, bm', D, L, rfl, h2, h3, _⟩ := h
  obtain ⟨cs, ho⟩ := h3.own
  intro x hx
  simp only [List.mem_cons, List.not_mem_nil, or_false] at hx
  rcases hx with rfl | rfl
  · exact lt_of_blk ho
  · exact h2.mp.lt
theorem TxSys.pos (h : TxSys w t n H F) : 0 < n := by
  obtain ⟨l, bmt, al, T, f, p, bl, bm, bm', D, L, h1, h2, h3, _⟩ := h
  exact h3.pos
theorem TxSys.hi (h : TxSys w t n H F) : n ≤ 1900 := by
  obtain ⟨l, bmt, al, T, f, p, bl, bm, bm', D, L, h1, h2, h3, _⟩ := h
  exact h3.hi
theorem TxSys.congr {H' : Nat → Bs} (h : TxSys w t n H F) (e : ∀ i, i < n → H i = H' i) : TxSys w t n H' F := by
  obtain ⟨l, bmt, al, T, f, p, bl, bm, bm', D, L, h1, h2, h3, h4, h5, h6, h7⟩ := h
  exact ⟨l, bmt, al, T, f, p, bl, bm, bm', D, L, h1, h2, h3, h4, h5, h6, fun i hi => (h7 i hi).trans (e i hi)⟩
theorem TxSys.len (h : TxSys w t n H F) (i : Nat) (hi : i < n) : (H i).length = 248 := by
  obtain ⟨l, bmt, al, T, f, p, bl, bm, bm', D, L, h1, h2, h3, h4, h5, h6, h7⟩ := h
  rw [← h7 i hi]
  unfold txH
  have hi' : i < T.length := by omega
  simp only [List.getD, List.getElem?_eq_getElem hi', Option.getD_some]
  cases hT : T[i] with
  | none => exact h3.len i hi
  | some b => exact h2.ml b (hT ▸ List.getElem_mem hi')

theorem ts_read (i : Nat) (h : TxSys w t n H F) (hi : i < n) :
    Calls Tryz.prog 47 #[.pointer (some ⟨t, 0, none⟩), .int .i64 i] w fun e w' => ∃ v, e = .returned (.tuple #[v, .int .i64 0]) ∧ OwnS w' w.heap.size v (H i) ∧ TxSys w' t n H F ∧ Kp F w w' := by
  obtain ⟨l, bmt, al, T, f, p, bl, bm, bm', D, L, rfl, h2, h3, h4, h5, h6, h7⟩ := h
  refine (tx_read i h2 h3 hi).mono fun e w' hp => ?_
  obtain ⟨v, he, ho, ht, hl, hk⟩ := hp
  exact ⟨v, he, h7 i hi ▸ ho, ⟨l, bmt, al, T, f, p, bl, bm, bm', D, L, rfl, ht, hl, h4, h5, h6, h7⟩, hk.mono (by simp)⟩

theorem ts_write (i : Nat) (v : Value) (b : Bs) (h : TxSys w t n H F) (hi : i < n) (hb : BytesAt w v b) (hbl : b.length = 248) :
    Calls Tryz.prog 45 #[.pointer (some ⟨t, 0, none⟩), .int .i64 i, v] w fun e w' => e = .returned (.int .i64 0) ∧ TxSys w' t n (fun j => if j = i then b else H j) F ∧ Kp F w w' := by
  obtain ⟨l, bmt, al, T, f, p, bl, bm, bm', D, L, rfl, h2, h3, h4, h5, h6, h7⟩ := h
  refine (tx_write i v b h2 h3 h4 h5 hi h6 hb hbl).mono fun e w' hp => ?_
  obtain ⟨al', he, ht, hl, hk⟩ := hp
  refine ⟨he, ⟨l, bmt, al', T.set i (some b), f, p, bl, bm, bm', D, L, rfl, ht, hl, h4, h5, by simpa using h6, fun j hj => ?_⟩, hk.mono (by simp)⟩
  by_cases e : j = i
  · subst e
    simp [txH, List.getD, h6, hj]
  · simp only [if_neg e]
    rw [← h7 j hj]
    simp [txH, List.getD, List.getElem?_set_ne (Ne.symm e)]

theorem ts_homes (h : TxSys w t n H F) :
    Calls Tryz.prog 53 #[.pointer (some ⟨t, 0, none⟩)] w fun e w' => e = .returned (.int .i64 n) ∧ ∃ k, w' = w.drewN k := by
  obtain ⟨l, bmt, al, T, f, p, bl, bm, bm', D, L, rfl, h2, h3, _⟩ := h
  exact tx_homes h2 h3

/-- The first home: a root, the next version. -/
def rootB (root ver : Nat) : Bs := putN 4 root ++ putN 8 ver ++ zeros 236
theorem length_rootB (r v : Nat) : (rootB r v).length = 248 := by
  have h : (zeros 236).length = 236 := length_zeros 236
  simp only [rootB, List.length_append, length_putN, h]

set_option maxHeartbeats 1000000 in
set_option maxRecDepth 20000 in
theorem space_setRoot (root ver : Nat) (h : TxSys w t n H F) (hr : root < 4294967296) (hv : ver < 18446744073709551616) :
    Calls Tryz.prog 145 #[.pointer (some ⟨t, 0, none⟩), .int .u32 root, .int .u64 ver] w fun e w' => e = .returned (.int .i64 0) ∧ TxSys w' t n (fun j => if j = 0 then rootB root ver else H j) F ∧ Kp F w w' := by
  have HS := Lib.hid h
  have HP := Lib.hid h.pos
  have HV := Lib.hid hv
  have HR := Lib.hid (show root < 18446744073709551616 by omega)
  have cv : IntKind.u64.wrap (root : Int) = root := IntWalk.u64_in _ (by omega)
  clear h hv
  go_enter Tryz.func145, Tryz.ntmps145
  go_wp2_with (first
    | (go_at_call_of 120 (Value.slice none 0 0); refine (put_b _ [] root 4 _ (BytesAt.nil _) (by simp) HR.out (by omega)).mono ?_; rintro e w1 ⟨v1, rfl, ho1, hk1⟩; obtain ⟨a1, n1, cp1, rfl⟩ := ho1.bytes.shape; have HO1 := Lib.hid ho1; have HK1 := Lib.hid hk1; clear ho1 hk1)
    | (go_at_call 120; refine (put_b _ _ ver 8 _ HO1.out.bytes (by simp [length_putN]) HV.out (by omega)).mono ?_; rintro e w2 ⟨v2, rfl, ho2, hk2⟩; obtain ⟨X, hX, hXl, ho2⟩ : ∃ X, putN 4 root ++ putN 8 ver = X ∧ X.length = 12 ∧ OwnB w2 w1.heap.size v2 X := ⟨_, rfl, by simp [length_putN], ho2⟩; obtain ⟨a2, cp2, rfl⟩ := ho2.bytes.slice; rw [hXl] at ho2 ⊢; have HX := Lib.hid hX; have HXl := Lib.hid hXl; have HO2 := Lib.hid ho2; have HK2 := Lib.hid hk2; clear ho2 hk2 hX hXl)
    | (at_builtin; go_loud (refine wpList_append_zeros rfl _ _ rfl w1.heap.size _ X 236 _ rfl rfl rfl HO2.out (by rw [HXl.out]; decide) HK2.out.size ?_); rintro v3 w3 ho3 hk3; obtain ⟨a3, n3, cp3, rfl⟩ := ho3.bytes.shape; have HO3 := Lib.hid ho3; have HK3 := Lib.hid hk3; clear ho3 hk3)
    | (go_at_call 45; go_loud (have hk : Kp [] w w3 := (HK1.out.and HK2.out).trans HK3.out (fun x hx => .inr (by have := HO2.out.own x hx; have := HK1.out.size; omega)); refine (ts_write 0 _ _ (HS.out.kp0 hk) HP.out HO3.out.bytes (by rw [List.length_append, HXl.out, length_zeros])).mono ?_; rintro e w4 ⟨rfl, ht4, hk4⟩; have HT4 := Lib.hid ht4; have HK4 := Lib.hid ((hk.mono (T := F) (by simp)).and hk4); clear ht4 hk4 hk)))
  go_ret
  refine ⟨rfl, ?_, HK4.out⟩
  have := HT4.out
  rw [← HX.out] at this
  exact this
end
end Go.Proofs.YtonkeialdfofcaaGreatDoor
