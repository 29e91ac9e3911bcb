/-
  chain.puts, chain.Put where there is room.
-/
import Derived.Test.YtonkeialdfofcaaGreatDoorPuts
namespace Go.Proofs.YtonkeialdfofcaaGreatDoor
open Go.RowKit Go

theorem wpList_append_int {w : World} {ops : Array Oper} {rest : List Oper} {o : Oper} {a : Act} {Q : Exit → Act → World → Prop} (hgd : o.guard = none) (s x : Operand)
    (ho : o.op = .call { callee := .builtin .append, args := #[s, x], argTypes := #[124, 124] })
    (base : Nat) (v : Value) (l : List Nat) (i b c : Nat) (hs : a.eval s = v) (hx : a.eval x = .slice (some ⟨b, 0, none⟩) 1 c) (hown : OwnI w base v l) (hb : w.cell? ⟨b, 0, none⟩ = some (.int .i64 (i : Int))) (hsz : l.length ≤ 1000000) (hbase : base ≤ w.heap.size)
    (h : ∀ v' w', OwnI w' base v' (l ++ [i]) → Kp v.ownBlock.toList w w' → wpList Tryz.prog ops Q rest (a.put o.dst v') w') : wpList Tryz.prog ops Q (o :: rest) a w := by
  obtain ⟨ii, hi, hz, h1, h2⟩ := info_parts infoInt
  refine wpList_plain hgd fun _ hK => ?_
  obtain ⟨v', w', hr, ho', hg, _⟩ := run_append_own (P := Tryz.prog) w base 124 o.type 3 ii _ 1 8 Tryz.underlying124 hi hz h1 h2 rfl (by decide) v l.length (l.map iv) hown ⟨b, 0, none⟩ 1 c [iv i] (by simp) (fun j u hu => by
    have hj : j = 0 := by have := (List.getElem?_eq_some_iff.1 hu).1; simpa using this
    subst hj
    rw [addr_add]
    simp at hu
    rw [← hu]; exact hb) (by simp [iv, Value.oneCell']) (by unfold maxLen; omega) (by omega) hbase
  unfold Oper.wp execOp
  simp only [ho, resolve, invoke, builtin, Sem.run_bind, Sem.run_pure, Result.andThen_ok, List.map_toArray, List.map_cons, List.map_nil, hs, hx, hr]
  refine hK _ _ (h v' w' ?_ (Kp.of_grown hg))
  unfold OwnI
  rw [List.map_append, List.length_append]
  exact ho'

section
variable {w : World} {t n : Nat} {H : Nat → Bs} {F : List Nat}

theorem TxSys.kpI {S : List Nat} {w' : World} (h : TxSys w t n H F) (k : Kp S w w') (hn : ∀ b ∈ S, ∃ cs fz, w.heap[b]? = some (.cells cs 3 fz)) : TxSys w' t n H F := by
  obtain ⟨l, bmt, al, T, f, p, bl, bm, bm', D, L, h1, h2, h3, h4⟩ := h
  have nb : NoB w S := fun b hb cs fz c => by
    obtain ⟨cs', fz', e⟩ := hn b hb
    rw [e] at c; simp at c
  have hne : ∀ b o, w.heap[b]? = some o → (∀ cs fz, o ≠ .cells cs 3 fz) → ∀ x ∈ S, x ≠ b := fun b o hb ho x hx e => by
    obtain ⟨cs', fz', e'⟩ := hn x hx
    rw [e, hb] at e'
    exact ho _ _ (Option.some.inj e')
  obtain ⟨cs, ho⟩ := h3.own
  obtain ⟨es, c, hm, _⟩ := h2.mp
  have a1 := hne _ _ ho (by simp)
  have a2 := hne _ _ h2.own (by simp)
  have a3 := hne _ _ hm (by simp)
  obtain ⟨cs2, al2, vt2, hd⟩ := h3.dk
  obtain ⟨al3, hl⟩ := h3.lg
  obtain ⟨es4, c4, hm4, _⟩ := hd.mp
  obtain ⟨es5, c5, hm5, _⟩ := hl.mp
  have a4 := hne _ _ hd.own (by simp)
  have a5 := hne _ _ hd.row.1 (by simp)
  have a6 := hne _ _ hm4 (by simp)
  have a7 := hne _ _ hm5 (by simp)
  refine ⟨l, bmt, al, T, f, p, bl, bm, bm', D, L, h1, h2.kp k nb (fun c => a2 _ c rfl) (fun c => a3 _ c rfl), h3.kp k nb (fun x hx => ⟨a1 x hx, a4 x hx, a5 x hx, a6 x hx, a7 x hx⟩), h4⟩

theorem OwnI.ints {base : Nat} {v : Value} {l : List Nat} (h : OwnI w base v l) : ∀ b ∈ v.ownBlock.toList, ∃ cs fz, w.heap[b]? = some (.cells cs 3 fz) := by
  obtain ⟨_, ⟨rfl, _⟩ | ⟨g, cap, cur, rfl, hb, hg, r⟩⟩ := h
  · intro b hb; simp [Value.ownBlock] at hb
  · intro b hb
    simp [Value.ownBlock] at hb
    subst hb
    exact ⟨_, _, hg⟩

/-- A link's bytes; a chain's links, the first k of them. -/
def linkB (next : Nat) (s : Bs) : Bs := putN 4 next ++ putN 2 s.length ++ s ++ zeros (242 - s.length)
def partB (b : Bs) (k : Nat) : Bs := (b.drop (k * 242)).take 242
def laid (L : List Nat) (b : Bs) (H : Nat → Bs) : Nat → Nat → Bs
  | 0 => H
  | k + 1 => fun j => if j = L.getD k 0 then linkB (L.getD (k + 1) 0) (partB b k) else laid L b H k j

theorem OwnI.addr {base : Nat} {v : Value} {l : List Nat} (h : OwnI w base v l) (h0 : 0 < l.length) : ∃ g c, v = .slice (some ⟨g, 0, none⟩) l.length c := by
  obtain ⟨_, ⟨rfl, h⟩ | ⟨g, cap, cur, rfl, _⟩⟩ := h
  · omega
  · exact ⟨_, _, rfl⟩
theorem part_cut {b : Bs} {k hi : Nat} (h : hi = min ((k + 1) * 242) b.length) (h2 : k * 242 ≤ b.length) : (b.drop (k * 242)).take (hi - k * 242) = partB b k := by
  unfold partB
  apply List.ext_getElem?
  intro j
  simp only [List.getElem?_take, List.getElem?_drop]
  by_cases h1 : j < hi - k * 242
  · rw [if_pos h1, if_pos (by omega)]
  · rw [if_neg h1]
    by_cases h3 : j < 242
    · rw [if_pos h3]
      symm
      rw [List.getElem?_eq_none_iff]
      omega
    · rw [if_neg h3]

set_option maxHeartbeats 2000000 in
theorem chain_puts (v : Value) (b : Bs) (L : List Nat) (B' : Bs) (h : TxSys w t n H F) (hn : 1 < n) (hb : BytesAt w v b) (hbl : b.length ≤ 9680) (htk : tkB n (longN b.length) (H 1) = some (L, B')) :
    Calls Tryz.prog 114 #[.pointer (some ⟨t, 0, none⟩), v] w fun e w' => ∃ i, e = .returned (.tuple #[.int .i64 (i : Nat), .nilIface]) ∧ L[0]? = some i ∧ TxSys w' t n (laid L b (fun j => if j = 1 then B' else H j) (longN b.length)) F ∧ Kp F w w' := by
  obtain ⟨a, c, rfl⟩ := hb.slice
  have hmc : b.length ≤ c := by
    rcases hb with ⟨e, rfl⟩ | ⟨b0, off, cap, cs, fz, e, g2, _⟩
    · exact Nat.zero_le _
    · simp only [Value.slice.injEq] at e; omega
  generalize hm : b.length = m at *
  have HS := Lib.hid h
  have HB := Lib.hid hb
  have HTK := Lib.hid htk
  have HTKK := Lib.hid htk
  have HM := Lib.hid hm
  generalize hK : longN m = K at *
  have HKK := Lib.hid hK
  have hKlo : 1 ≤ K := by rw [← hK]; unfold longN; omega
  have hKhi : K ≤ 40 := by rw [← hK]; unfold longN; omega
  have hFlt := Lib.hid h.lt
  clear h hb htk hm hK
  go_enter Tryz.func114, Tryz.ntmps114
  go_wp2_with (go_at_call 55; refine (chain_long _ _ (by omega)).mono ?_; rintro e w1 ⟨rfl, rfl⟩; rw [show ((m : Int).toNat) = m from rfl, HKK.out])
  go_loopw [22, 6] (fun x hv wr => ∃ (k : Nat) (l rest : List Nat) (bits : Bs), x = .int .i64 k ∧ k ≤ K ∧ OwnI wr w.heap.size hv l ∧ l.length = k ∧ tkB n (K - k) bits = some (rest, B') ∧ l ++ rest = L ∧ TxSys wr t n (fun j => if j = 1 then bits else H j) F ∧ Kp F w wr) (fun x _ _ => K - (intOf x).toNat)
  case atStart =>
    refine ⟨0, [], L, H 1, rfl, by omega, World.ownsRow_nil _ _ _ _, rfl, HTK.out, rfl, HS.out.congr (fun i _ => ?_), Kp.refl _ _⟩
    by_cases e : i = 1
    · simp [e]
    · simp [e]
  case round =>
    obtain ⟨k, l, rest, bits, rfl, hkK, hown, hlen, htk, hL, hts, hkr⟩ := hrel
    obtain ⟨a0, c0, rfl⟩ := hown.shape
    by_cases hkk : k < K
    · obtain ⟨K1, hK1⟩ : ∃ K1, K - k = K1 + 1 := ⟨K - k - 1, by omega⟩
      rw [hK1] at htk
      obtain ⟨i, rest', rfl, hfree, htk'⟩ := tkB_succ htk
      have HO := Lib.hid hown
      have HT := Lib.hid hts
      have HKR := Lib.hid hkr
      have HFR := Lib.hid hfree
      have HTK' := Lib.hid htk'
      have HLL := Lib.hid hL
      have HLE := Lib.hid hlen
      have HK1 := Lib.hid hK1
      clear hown hts hkr hfree htk htk' hL hlen hK1
      go_wp2_with (first
        | (go_at_call 148; refine (space_Take i HT.out hn HFR.out).mono ?_; rintro e w1 ⟨rfl, ht1, hk1⟩; have HT1 := Lib.hid ht1; have HK1' := Lib.hid hk1; clear ht1 hk1)
        | (at_builtin; refine wpList_append_int rfl _ _ rfl w.heap.size _ l i _ _ rfl rfl ((HO.out.kp HK1'.out (fun x hx c => by have := (HO.out.lt x hx).1; have := hFlt.out x c; omega)).kp0 (Kp.alloc _ _)) (cell_of (blk_alloc_new _ _) 0 rfl) (by rw [HLE.out]; omega) (by have := HKR.out.size; have := HK1'.out.size; simp; omega) ?_))
      intro v2 w2 ho2 hk2
      obtain ⟨a2, c2, rfl⟩ := ho2.shape
      have HO2 := Lib.hid ho2
      have HK2 := Lib.hid hk2
      clear ho2 hk2
      go_wp2
      have hto := (HO.out.kp HK1'.out (fun x hx c => by have := (HO.out.lt x hx).1; have := hFlt.out x c; omega)).kp0 (Kp.alloc w1 (Obj.cells #[Value.int IntKind.i64 i] 3))
      refine ⟨⟨k + 1, l ++ [i], rest', turnB bits i, by simp, by omega, HO2.out, by rw [List.length_append, HLE.out]; rfl, ?_, by rw [← HLL.out]; simp, ?_, ?_⟩, ?_⟩
      · rw [show K - (k + 1) = K1 by have := HK1.out; omega]; exact HTK'.out
      · refine ((HT1.out.kp0 (Kp.alloc _ _)).kpI HK2.out hto.ints).congr fun j _ => ?_
        by_cases e : j = 1
        · subst e; rfl
        · simp [e]
      · exact ((HKR.out.and HK1'.out).and ((Kp.alloc _ _).mono (by simp))).trans HK2.out (fun x hx => .inr (hto.lt x hx).1)
      · simp only [intOf]; omega
    · have hkK' : k = K := by omega
      subst hkK'
      have HO := Lib.hid hown
      have HT := Lib.hid hts
      have HKR := Lib.hid hkr
      have HTK' := Lib.hid htk
      have HLL := Lib.hid hL
      have HLE := Lib.hid hlen
      rw [Nat.sub_self] at htk
      simp only [tkB, Option.some.injEq, Prod.mk.injEq] at htk
      obtain ⟨rfl, rfl⟩ := htk
      rw [List.append_nil] at hL
      subst hL
      obtain ⟨g, cg, he⟩ := hown.addr (by omega)
      rw [he] at hown
      rw [hlen] at hown he ⊢
      simp only [Value.slice.injEq, true_and] at he
      obtain ⟨rfl, rfl⟩ := he
      have HO := Lib.hid hown
      clear hown hts hkr hlen
      go_wp2
      rename World => wA
      go_loopw [40] (fun x wx => ∃ q : Nat, x = .int .i64 q ∧ q ≤ k ∧ TxSys wx t n (laid l b (fun j => if j = 1 then bits else H j) q) F ∧ Kp F wA wx) (fun x _ => k - (intOf x).toNat)
      case atStart => exact ⟨0, rfl, by omega, HT.out, Kp.refl _ _⟩
      case round =>
        obtain ⟨q, rfl, hq, htq, hkq⟩ := hrel
        by_cases hqk : q < k
        · obtain ⟨i, hi⟩ : ∃ i, l[q]? = some i := ⟨_, List.getElem?_eq_getElem (by rw [HLE.out]; exact hqk)⟩
          have hin := tkB_lt HTKK.out i (List.mem_of_getElem? hi)
          obtain ⟨nx, hnx⟩ : ∃ nx, l.getD (q + 1) 0 = nx := ⟨_, rfl⟩
          obtain ⟨lo, hlo⟩ : ∃ lo, q * 242 = lo := ⟨_, rfl⟩
          have hlom : lo ≤ m := by have := HKK.out; unfold longN at this; omega
          obtain ⟨hi', hhi⟩ : ∃ hi', min ((q + 1) * 242) m = hi' := ⟨_, rfl⟩
          have hhm : hi' ≤ m := by omega
          have hlh : lo ≤ hi' := by omega
          obtain ⟨v', hsl, hbv⟩ := HB.out.cut lo hi' hlh (by rw [HM.out]; exact hhm)
          have ex : (b.drop lo).take (hi' - lo) = partB b q := by rw [← hlo]; exact part_cut (by rw [HM.out]; exact hhi.symm) (by rw [hlo, HM.out]; exact hlom)
          rw [ex] at hbv
          obtain ⟨X, hX⟩ : ∃ X, partB b q = X := ⟨_, rfl⟩
          rw [hX] at hbv
          have hXl : X.length = hi' - lo := by rw [← hX, ← ex]; simp [HM.out]; omega
          obtain ⟨a', c', rfl⟩ := hbv.slice
          obtain ⟨sl, hsll⟩ : ∃ sl, X.length = sl := ⟨_, rfl⟩
          rw [hsll] at hsl hbv hXl
          have hsl242 : sl ≤ 242 := by omega
          have hnxn : nx < 4294967296 := by
            by_cases h1 : q + 1 < l.length
            · have : nx ∈ l := by rw [← hnx]; simp [List.getD, List.getElem?_eq_getElem h1]
              have := tkB_lt HTKK.out nx this
              have := HS.out.hi
              omega
            · have : nx = 0 := by rw [← hnx]; simp [List.getD, List.getElem?_eq_none (Nat.le_of_not_lt h1)]
              omega
          have cv1 : IntKind.u64.wrap (nx : Int) = nx := IntWalk.u64_in _ (by omega)
          have cv2 : IntKind.u64.wrap (sl : Int) = sl := IntWalk.u64_in _ (by omega)
          have HNX := Lib.hid (show nx < 18446744073709551616 by omega)
          have HSL := Lib.hid (show sl < 18446744073709551616 by omega)
          have e1 : (q : Int) * 242 = lo := by omega
          have e2 : min ((lo : Nat) : Int) (m : Int) = lo := by omega
          have hlt := HO.out.lt g (by simp [Value.ownBlock])
          have hog : OwnI wr w.heap.size (.slice (some ⟨g, 0, none⟩) k _) l := HO.out.kp hkq (fun x hx c => by have := (HO.out.lt x hx).1; have := hFlt.out x c; omega)
          have c0 : wr.cell? ⟨g, q, none⟩ = some (.int .i64 (i : Int)) := by simpa using hog.cell q i hi
          have HBV := Lib.hid ((hbv.kp HKR.out HS.out.noB).kp hkq HT.out.noB)
          have HTQ := Lib.hid htq
          have HKQ := Lib.hid hkq
          have HIN := Lib.hid hin.2
          have HXL := Lib.hid hsll
          have HX := Lib.hid hX
          have HI := Lib.hid hi
          have HNXE := Lib.hid hnx
          have HHI := Lib.hid hXl
          have hqlt : (q : Int) < k := by omega
          have HOG := Lib.hid hog
          clear htq hkq hbv hi hX hsll hnx hin ex hog hlt hXl
          have hic : hi' ≤ c := by omega
          have hcase : ((q + 1) * 242 ≤ m ∧ q + 1 < k) ∨ ((q + 1) * 242 ≤ m ∧ q + 1 = k) ∨ (m < (q + 1) * 242 ∧ q + 1 = k) := by have := HKK.out; unfold longN at this; omega
          obtain ⟨yl, hyl⟩ : ∃ yl, yl = 6 + sl := ⟨_, rfl⟩
          have hyl2 : yl ≤ 248 := by omega
          have HYE := Lib.hid hyl
          clear hyl
          have hlast0 : q + 1 = k → nx = 0 := fun e => by rw [← HNXE.out]; simp [List.getD, List.getElem?_eq_none (show l.length ≤ q + 1 by rw [HLE.out]; omega)]
          rcases hcase with ⟨hc1, hc2⟩ | ⟨hc1, hc2⟩ | ⟨hc1, hc2⟩
          · have hl2 : (q : Int) + 1 < k := by omega
            have f1 : ((q : Int) + 1) * 242 = hi' := by omega
            have f2 : (hi' : Int) ≤ m := by omega
            have c1 : wr.cell? ⟨g, q + 1, none⟩ = some (.int .i64 (nx : Int)) := by simpa using HOG.out.cell (q + 1) nx (by rw [← HNXE.out]; simp [List.getD, List.getElem?_eq_getElem (show q + 1 < l.length by rw [HLE.out]; omega)])
            go_wp2_with (first
              | (go_at_call_of 120 (Value.slice none 0 0); refine (put_b _ [] nx 4 _ (BytesAt.nil _) (by simp) HNX.out (by omega)).mono ?_; rintro e w1 ⟨v1, rfl, ho1, hk1⟩; obtain ⟨a1, n1, cp1, rfl⟩ := ho1.bytes.shape; have HO1 := Lib.hid ho1; have HK1 := Lib.hid hk1; clear ho1 hk1)
              | (go_at_call 120; refine (put_b _ _ sl 2 _ HO1.out.bytes (by simp [length_putN]) HSL.out (by omega)).mono ?_; rintro e w2 ⟨v2, rfl, ho2, hk2⟩; obtain ⟨a2, n2, cp2, rfl⟩ := ho2.bytes.shape; have HO2 := Lib.hid ho2; have HK2 := Lib.hid hk2; clear ho2 hk2)
              | (at_builtin; refine wpList_append_bytes rfl _ _ rfl w1.heap.size _ _ _ X rfl rfl HO2.out ((HBV.out.kp0 HK1.out).kp0 HK2.out) (by rw [HXL.out]; simp [length_putN]; omega) HK2.out.size ?_; rintro v3 w3 ho3 hk3; obtain ⟨Y, hY, hYl, ho3⟩ : ∃ Y, putN 4 nx ++ putN 2 sl ++ X = Y ∧ Y.length = yl ∧ OwnB w3 w1.heap.size v3 Y := ⟨_, rfl, by have := HYE.out; simp [length_putN, HXL.out]; omega, ho3⟩; obtain ⟨a3, cp3, rfl⟩ := ho3.bytes.slice; rw [hYl] at ho3 ⊢; have HY := Lib.hid hY; have HYL := Lib.hid hYl; have HO3 := Lib.hid ho3; have HK3 := Lib.hid hk3; clear ho3 hk3 hY hYl)
              | (at_builtin; refine wpList_append_zeros rfl _ _ rfl w1.heap.size _ Y (242 - sl) _ (by have := HYE.out; omega) rfl rfl HO3.out (by have := HYE.out; rw [HYL.out]; omega) (by have := HK2.out.size; have := HK3.out.size; omega) ?_; rintro v4 w4 ho4 hk4; obtain ⟨a4, n4, cp4, rfl⟩ := ho4.bytes.shape; have HO4 := Lib.hid ho4; have HK4 := Lib.hid hk4; clear ho4 hk4)
              | (go_at_call 45; have hk : Kp [] wr w4 := ((HK1.out.and HK2.out).trans HK3.out (fun x hx => .inr (by have := HO2.out.own x hx; have := HK1.out.size; omega))).trans HK4.out (fun x hx => .inr (by have := HO3.out.own x hx; have := HK1.out.size; omega)); refine (ts_write i _ _ (HTQ.out.kp0 hk) HIN.out HO4.out.bytes (by rw [List.length_append, HYL.out, length_zeros]; have := HYE.out; omega)).mono ?_; rintro e w5 ⟨rfl, ht5, hk5⟩; have HT5 := Lib.hid ht5; have HK5 := Lib.hid ((hk.mono (T := F) (by simp)).and hk5); clear ht5 hk5 hk))
            refine ⟨⟨q + 1, by simp, by omega, HT5.out.congr fun j _ => ?_, HKQ.out.and HK5.out⟩, by simp only [intOf]; omega⟩
            have e0 : l.getD q 0 = i := by simp [List.getD, HI.out]
            have e1 := HNXE.out
            have e2 := HX.out
            simp only [laid, e0, e1, e2, linkB, HXL.out, HY.out]
          · have hl2 : ¬ ((q : Int) + 1 < k) := by omega
            have f1 : ((q : Int) + 1) * 242 = hi' := by omega
            have f2 : (hi' : Int) ≤ m := by omega
            have hnx0 := hlast0 hc2
            subst hnx0
            go_wp2_with (first
              | (go_at_call_of 120 (Value.slice none 0 0); refine (put_b _ [] 0 4 _ (BytesAt.nil _) (by simp) HNX.out (by omega)).mono ?_; rintro e w1 ⟨v1, rfl, ho1, hk1⟩; obtain ⟨a1, n1, cp1, rfl⟩ := ho1.bytes.shape; have HO1 := Lib.hid ho1; have HK1 := Lib.hid hk1; clear ho1 hk1)
              | (go_at_call 120; refine (put_b _ _ sl 2 _ HO1.out.bytes (by simp [length_putN]) HSL.out (by omega)).mono ?_; rintro e w2 ⟨v2, rfl, ho2, hk2⟩; obtain ⟨a2, n2, cp2, rfl⟩ := ho2.bytes.shape; have HO2 := Lib.hid ho2; have HK2 := Lib.hid hk2; clear ho2 hk2)
              | (at_builtin; refine wpList_append_bytes rfl _ _ rfl w1.heap.size _ _ _ X rfl rfl HO2.out ((HBV.out.kp0 HK1.out).kp0 HK2.out) (by rw [HXL.out]; simp [length_putN]; omega) HK2.out.size ?_; rintro v3 w3 ho3 hk3; obtain ⟨Y, hY, hYl, ho3⟩ : ∃ Y, putN 4 0 ++ putN 2 sl ++ X = Y ∧ Y.length = yl ∧ OwnB w3 w1.heap.size v3 Y := ⟨_, rfl, by have := HYE.out; simp [length_putN, HXL.out]; omega, ho3⟩; obtain ⟨a3, cp3, rfl⟩ := ho3.bytes.slice; rw [hYl] at ho3 ⊢; have HY := Lib.hid hY; have HYL := Lib.hid hYl; have HO3 := Lib.hid ho3; have HK3 := Lib.hid hk3; clear ho3 hk3 hY hYl)
              | (at_builtin; refine wpList_append_zeros rfl _ _ rfl w1.heap.size _ Y (242 - sl) _ (by have := HYE.out; omega) rfl rfl HO3.out (by have := HYE.out; rw [HYL.out]; omega) (by have := HK2.out.size; have := HK3.out.size; omega) ?_; rintro v4 w4 ho4 hk4; obtain ⟨a4, n4, cp4, rfl⟩ := ho4.bytes.shape; have HO4 := Lib.hid ho4; have HK4 := Lib.hid hk4; clear ho4 hk4)
              | (go_at_call 45; have hk : Kp [] wr w4 := ((HK1.out.and HK2.out).trans HK3.out (fun x hx => .inr (by have := HO2.out.own x hx; have := HK1.out.size; omega))).trans HK4.out (fun x hx => .inr (by have := HO3.out.own x hx; have := HK1.out.size; omega)); refine (ts_write i _ _ (HTQ.out.kp0 hk) HIN.out HO4.out.bytes (by rw [List.length_append, HYL.out, length_zeros]; have := HYE.out; omega)).mono ?_; rintro e w5 ⟨rfl, ht5, hk5⟩; have HT5 := Lib.hid ht5; have HK5 := Lib.hid ((hk.mono (T := F) (by simp)).and hk5); clear ht5 hk5 hk))
            refine ⟨⟨q + 1, by simp, by omega, HT5.out.congr fun j _ => ?_, HKQ.out.and HK5.out⟩, by simp only [intOf]; omega⟩
            have e0 : l.getD q 0 = i := by simp [List.getD, HI.out]
            have e1 := HNXE.out
            have e2 := HX.out
            simp only [laid, e0, e1, e2, linkB, HXL.out, HY.out]
          · have hl2 : ¬ ((q : Int) + 1 < k) := by omega
            have f1 : (m : Int) < ((q : Int) + 1) * 242 := by omega
            have f2 : hi' = m := by omega
            have hnx0 := hlast0 hc2
            subst hnx0 f2
            go_wp2_with (first
              | (go_at_call_of 120 (Value.slice none 0 0); refine (put_b _ [] 0 4 _ (BytesAt.nil _) (by simp) HNX.out (by omega)).mono ?_; rintro e w1 ⟨v1, rfl, ho1, hk1⟩; obtain ⟨a1, n1, cp1, rfl⟩ := ho1.bytes.shape; have HO1 := Lib.hid ho1; have HK1 := Lib.hid hk1; clear ho1 hk1)
              | (go_at_call 120; refine (put_b _ _ sl 2 _ HO1.out.bytes (by simp [length_putN]) HSL.out (by omega)).mono ?_; rintro e w2 ⟨v2, rfl, ho2, hk2⟩; obtain ⟨a2, n2, cp2, rfl⟩ := ho2.bytes.shape; have HO2 := Lib.hid ho2; have HK2 := Lib.hid hk2; clear ho2 hk2)
              | (at_builtin; refine wpList_append_bytes rfl _ _ rfl w1.heap.size _ _ _ X rfl rfl HO2.out ((HBV.out.kp0 HK1.out).kp0 HK2.out) (by rw [HXL.out]; simp [length_putN]; omega) HK2.out.size ?_; rintro v3 w3 ho3 hk3; obtain ⟨Y, hY, hYl, ho3⟩ : ∃ Y, putN 4 0 ++ putN 2 sl ++ X = Y ∧ Y.length = yl ∧ OwnB w3 w1.heap.size v3 Y := ⟨_, rfl, by have := HYE.out; simp [length_putN, HXL.out]; omega, ho3⟩; obtain ⟨a3, cp3, rfl⟩ := ho3.bytes.slice; rw [hYl] at ho3 ⊢; have HY := Lib.hid hY; have HYL := Lib.hid hYl; have HO3 := Lib.hid ho3; have HK3 := Lib.hid hk3; clear ho3 hk3 hY hYl)
              | (at_builtin; refine wpList_append_zeros rfl _ _ rfl w1.heap.size _ Y (242 - sl) _ (by have := HYE.out; omega) rfl rfl HO3.out (by have := HYE.out; rw [HYL.out]; omega) (by have := HK2.out.size; have := HK3.out.size; omega) ?_; rintro v4 w4 ho4 hk4; obtain ⟨a4, n4, cp4, rfl⟩ := ho4.bytes.shape; have HO4 := Lib.hid ho4; have HK4 := Lib.hid hk4; clear ho4 hk4)
              | (go_at_call 45; have hk : Kp [] wr w4 := ((HK1.out.and HK2.out).trans HK3.out (fun x hx => .inr (by have := HO2.out.own x hx; have := HK1.out.size; omega))).trans HK4.out (fun x hx => .inr (by have := HO3.out.own x hx; have := HK1.out.size; omega)); refine (ts_write i _ _ (HTQ.out.kp0 hk) HIN.out HO4.out.bytes (by rw [List.length_append, HYL.out, length_zeros]; have := HYE.out; omega)).mono ?_; rintro e w5 ⟨rfl, ht5, hk5⟩; have HT5 := Lib.hid ht5; have HK5 := Lib.hid ((hk.mono (T := F) (by simp)).and hk5); clear ht5 hk5 hk))
            refine ⟨⟨q + 1, by simp, by omega, HT5.out.congr fun j _ => ?_, HKQ.out.and HK5.out⟩, by simp only [intOf]; omega⟩
            have e0 : l.getD q 0 = i := by simp [List.getD, HI.out]
            have e1 := HNXE.out
            have e2 := HX.out
            simp only [laid, e0, e1, e2, linkB, HXL.out, HY.out]
        · have hqk' : q = k := by omega
          subst hqk'
          have HTQ := Lib.hid htq
          have HKQ := Lib.hid hkq
          obtain ⟨i, hi⟩ : ∃ i, l[0]? = some i := ⟨_, List.getElem?_eq_getElem (by rw [HLE.out]; omega)⟩
          have hog : OwnI wr w.heap.size (.slice (some ⟨g, 0, none⟩) q _) l := HO.out.kp hkq (fun x hx c => by have := (HO.out.lt x hx).1; have := hFlt.out x c; omega)
          have c0 : wr.cell? ⟨g, 0, none⟩ = some (.int .i64 (i : Int)) := by simpa using hog.cell 0 i hi
          clear htq hkq hog
          go_wp2
          go_ret2
          exact ⟨i, rfl, hi, HTQ.out, HKR.out.and HKQ.out⟩
end
end Go.Proofs.YtonkeialdfofcaaGreatDoor
