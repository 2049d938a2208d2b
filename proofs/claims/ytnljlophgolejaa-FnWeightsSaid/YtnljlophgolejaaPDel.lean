/- slices.DeleteFunc over parts: those of count 0 go. -/
import Derived.Test.YtnljlophgolejaaSumZ
import Derived.Test.YtnljlophgolejaaWLen
import Derived.Test.YtnljlophgolejaaPuzW
namespace Go.Proofs.Ytnljlophgolejaa
open Go.RowKit

theorem run_clear_rowK {P : Program} (w : World) (t e ty : TypeId) (i0 : TypeInfo) (z : Value) (k : Nat) (ht : P.underlying t = some (.slice e)) (hi : P.info? e = some i0) (hz : i0.zero = some z) (hk : z.cells.size = k) (h1 : ∀ v ∈ z.cells.toList, v.oneCell' = true)
    (g o n c : Nat) (cur : Array Value) (T : TypeId) (hg : w.heap[g]? = some (.cells cur T (0, 0))) (hn : 0 < n) (hfit : o + n * k ≤ cur.size) (hk0 : 0 < k) :
    (Builtin.clear_ #[t] ty #[.slice (some ⟨g, o, none⟩) n c]).run P w = .ok (.tuple #[]) (w.setRow g (cur.toList.take o ++ (Builtin.zeroCells z.cells n).toList ++ cur.toList.drop (o + n * k)).toArray) := by
  have hl : (Builtin.zeroCells z.cells n).toList.length = n * k := by simp [Builtin.zeroCells, hk]
  have hone : ∀ v ∈ (Builtin.zeroCells z.cells n).toList, v.oneCell' = true := by
    intro v hv
    simp only [Builtin.zeroCells, Array.toList_map, List.mem_map] at hv
    obtain ⟨x, hx, rfl⟩ := hv
    refine h1 _ ?_
    have hlt : x % z.cells.size < z.cells.size := Nat.mod_lt _ (by omega)
    rw [getElem!_pos z.cells (x % z.cells.size) hlt, ← Array.getElem_toList]
    exact List.getElem_mem _
  have hst := run_storeCells_at P g o T (Builtin.zeroCells z.cells n).toList 0 cur w hg (by rw [hl]; simpa using hfit) hone
  simp only [Nat.add_zero, hl] at hst
  have hv : (zeroValue e).run P w = .ok z w := by simp [zeroValue, typeInfo, hi, hz]
  obtain ⟨m, rfl⟩ : ∃ m, n = m + 1 := ⟨n - 1, by omega⟩
  simp [Builtin.clear_, run_underlying ht, hv, hst]
theorem wpList_clearR {P : Program} {w : World} {ops : Array Oper} {rest : List Oper} {o : Oper} {a : Act} {Q : Exit → Act → World → Prop} (hgd : o.guard = none) (d : Operand) (dT : TypeId)
    (ho : o.op = .call { callee := .builtin .clear, args := #[d], argTypes := #[dT] }) (v : Value) (hd : a.eval d = v) {v' : Value} {w' : World}
    (hr : ∀ ty, (Builtin.clear_ #[dT] ty #[v]).run P w = .ok v' w') (h : wpList P ops Q rest (a.put o.dst v') w') : wpList P ops Q (o :: rest) a w := by
  refine wpList_plain hgd fun K hK => ?_
  unfold Oper.wp
  simp [execOp, ho, resolve, invoke, builtin, hd, hr, Result.andThen]
  exact hK _ _ h

theorem nz_succ {ps : List (List Int × Int)} {j : Nat} (h : j < ps.length) : nz (ps.take (j + 1)) = if (nthP ps j).2 = 0 then nz (ps.take j) else nz (ps.take j) ++ [nthP ps j] := by
  have e : nthP ps j = ps[j] := by simp [nthP, List.getD, h]
  unfold nz
  rw [List.take_succ_eq_append_getElem h, List.filter_append, e]
  by_cases h0 : ps[j].2 = 0 <;> simp [h0]
/-- The cells that stay, of the first j. -/
def keptP (ps : List (List Int × Int)) (cells : List Value) : Nat → List Value
  | 0 => []
  | j + 1 => if (nthP ps j).2 = 0 then keptP ps cells j else keptP ps cells j ++ (cells.drop (j * 2)).take 2
theorem keptP_len {ps : List (List Int × Int)} {cells : List Value} (hl : cells.length = ps.length * 2) : ∀ j, j ≤ ps.length → (keptP ps cells j).length = (nz (ps.take j)).length * 2
  | 0, _ => rfl
  | j + 1, h => by
    have ih := keptP_len hl j (by omega)
    rw [keptP, nz_succ (by omega)]
    split
    · exact ih
    · rw [List.length_append, ih, List.length_append, List.length_take, List.length_drop]
      simp
      omega
theorem keptP_sub {ps : List (List Int × Int)} {cells : List Value} : ∀ j, (keptP ps cells j).Sublist (cells.take (j * 2))
  | 0 => List.Sublist.refl _
  | j + 1 => by
    have ih := keptP_sub (ps := ps) (cells := cells) j
    have e : cells.take ((j + 1) * 2) = cells.take (j * 2) ++ (cells.drop (j * 2)).take 2 := by
      rw [show (j + 1) * 2 = j * 2 + 2 by omega, List.take_add]
    rw [keptP, e]
    split
    · exact ih.trans (List.sublist_append_left _ _)
    · exact List.Sublist.append ih (List.Sublist.refl _)
theorem Dist.pairwise {cells : List Value} : Dist cells ↔ cells.Pairwise (fun u u' => u.ownBlock = none ∨ u.ownBlock ≠ u'.ownBlock) := by
  rw [List.pairwise_iff_getElem]
  constructor
  · intro h i j hi hj hij
    exact h i j _ _ hij (List.getElem?_eq_getElem hi) (List.getElem?_eq_getElem hj)
  · intro h i j u u' hij h1 h2
    obtain ⟨hi, e1⟩ := List.getElem?_eq_some_iff.1 h1
    obtain ⟨hj, e2⟩ := List.getElem?_eq_some_iff.1 h2
    rw [← e1, ← e2]
    exact h i j hi hj hij
theorem Dist.sub {cells c2 : List Value} (h : Dist cells) (hs : c2.Sublist cells) : Dist c2 := Dist.pairwise.2 ((Dist.pairwise.1 h).sublist hs)
theorem partF_drop2 {ps : List (List Int × Int)} {j : Nat} (h : j < ps.length) : ((partF ps).drop (j * 2)).take 2 = partF [nthP ps j] := by
  rw [partF_drop]
  have e : ps.drop j = nthP ps j :: ps.drop (j + 1) := by rw [List.drop_eq_getElem_cons h]; simp [nthP, List.getD, h]
  rw [e]
  rfl
theorem keptP_FRs {w : World} {b : Nat} {ps : List (List Int × Int)} {cells : List Value} (h : FRs w b (partF ps) cells) : ∀ j, j ≤ ps.length → FRs w b (partF (nz (ps.take j))) (keptP ps cells j)
  | 0, _ => FRs.nil_
  | j + 1, hj => by
    have ih := keptP_FRs h j (by omega)
    rw [keptP, nz_succ (by omega)]
    split
    · exact ih
    · rw [partF_append]
      refine ih.append ?_
      rw [← partF_drop2 (by omega)]
      exact (h.drop (j * 2)).take 2

/-- The closure that nonzero strikes by. -/
theorem isZeroP_any {A : Option Addr} {n : Nat} {w : World} (c : Nat) (cn : Int) : Calls Try.prog 110 #[.agg #[.slice A n c, .int .i64 cn]] w (GivesB w (.bool (decide (cn = 0)))) := by
  have bx : Below w.heap.size w (w.alloc (.cells #[.slice A n c, .int .i64 cn] 62)) := (Below.refl _ _).alloc (Nat.le_refl _) _
  have e : (cn == 0) = decide (cn = 0) := rfl
  go_enter Try.func110, Try.ntmps110
  go_wp2
  go_ret
  first | exact ⟨rfl, bx⟩ | exact ⟨by rw [e], bx⟩

set_option maxRecDepth 100000 in
set_option maxHeartbeats 1000000 in
theorem indexP_any {w : World} {base b n : Nat} {A0 : Option Addr} {ps : List (List Int × Int)} {cells : List Value} (c0 : Nat) (h : OP w base b (.slice A0 n c0) ps cells) (hn : n ≤ 1000000000000) :
    Calls Try.prog 132 #[.slice A0 n c0, .func (.func 110) #[] #[]] w
      (fun e w' => ((∃ i : Nat, i < n ∧ e = .returned (.int .i64 (i : Int)) ∧ (nthP ps i).2 = 0 ∧ ∀ j, j < i → (nthP ps j).2 ≠ 0) ∨ (e = .returned (.int .i64 (-1)) ∧ ∀ j, j < n → (nthP ps j).2 ≠ 0)) ∧ Below w.heap.size w w') := by
  obtain ⟨A', n', c', hv, hn0, hc, _⟩ := h.form
  obtain ⟨rfl, rfl, rfl⟩ := slice_inj hv
  have HN := Lib.hid hn0
  have HH := Lib.hid h
  clear hv hn0 h
  go_enter Try.func132, Try.ntmps132
  go_wp2
  go_loopw [5, 8] (fun _ i wr => ∃ k : Nat, k ≤ n ∧ i = .int .i64 (k : Int) ∧ Hid (Below w.heap.size w wr) ∧ Hid (∀ j, j < k → (nthP ps j).2 ≠ 0)) (fun _ i _ => n - (intOf i).toNat)
  case atStart => exact ⟨0, Nat.zero_le _, rfl, Below.refl _ _, fun j hj => by omega⟩
  case round =>
    obtain ⟨k, hk, rfl, hb, ht⟩ := hrel
    by_cases hlt : k < n
    · have ho := HH.out.below hb.out
      obtain ⟨G, cc, hG, _⟩ := OF.shape ho (by rw [HN.out]; omega)
      obtain ⟨rfl, e2, e3⟩ := slice_inj hG
      clear e2 e3 hG
      obtain ⟨A1, n1, c1, k1, _, _, _, k4⟩ := OP.cell ho (k := k) (by rw [HN.out]; exact hlt)
      obtain ⟨cn, hcn⟩ : ∃ cn, cn = (nthP ps k).2 := ⟨_, rfl⟩
      rw [← hcn] at k4
      have HCN := Lib.hid hcn
      clear hcn ho
      go_wp2_with fail
      refine (isZeroP_any _ _).mono ?_
      rintro e w2 ⟨rfl, b2⟩
      have HB2 : Hid (Below w.heap.size w w2) := hb.out.trans (b2.mono hb.out.size)
      clear b2
      rcases hd : decide (cn = 0) with _ | _
      · have hne : (nthP ps k).2 ≠ 0 := by rw [← HCN.out]; exact of_decide_eq_false hd
        have HT : Hid (∀ j, j < k + 1 → (nthP ps j).2 ≠ 0) := upTo (P := fun j => (nthP ps j).2 ≠ 0) ht.out hne
        clear hd hne
        go_wp2
        go_roundw
        case rel => exact ⟨k + 1, by omega, by go_num, HB2, HT⟩
        case measure => simp [intOf]; omega
      · have HE : Hid ((nthP ps k).2 = 0) := by show _ = _; rw [← HCN.out]; exact of_decide_eq_true hd
        clear hd
        go_wp2
        go_ret
        exact ⟨.inl ⟨k, hlt, rfl, HE.out, ht.out⟩, HB2.out⟩
    · obtain rfl : k = n := by omega
      go_wp2
      go_ret
      exact ⟨.inr ⟨rfl, ht.out⟩, hb.out⟩

/-- What DeleteFunc leaves. -/
def DelP (w : World) (base b : Nat) (v0 : Value) (ps : List (List Int × Int)) : Ending → World → Prop := fun e w' =>
  ∃ v' cells', e = .returned v' ∧ OP w' base b v' ps cells' ∧ w.grownBy w' v0.ownBlock
theorem nz_all {ps : List (List Int × Int)} (h : ∀ j, j < ps.length → (nthP ps j).2 ≠ 0) : nz ps = ps := by
  unfold nz
  rw [List.filter_eq_self]
  intro x hx
  obtain ⟨j, hj, e⟩ := List.getElem_of_mem hx
  have := h j hj
  rw [show nthP ps j = x from by simp [nthP, List.getD, hj, e]] at this
  simpa using this
theorem keptP_all {ps : List (List Int × Int)} {cells : List Value} : ∀ j, j ≤ ps.length → cells.length = ps.length * 2 → (∀ i, i < j → (nthP ps i).2 ≠ 0) → keptP ps cells j = cells.take (j * 2)
  | 0, _, _, _ => rfl
  | j + 1, h, hl, hz => by
    have ih := keptP_all j (by omega) hl fun i hi => hz i (by omega)
    rw [keptP, if_neg (hz j (by omega)), ih, show (j + 1) * 2 = j * 2 + 2 by omega, List.take_add]
theorem take_set2 {α : Type} (cur : List α) (i : Nat) (a b : α) (h : i + 2 ≤ cur.length) : ((cur.set i a).set (i + 1) b).take (i + 2) = cur.take i ++ [a, b] := by
  refine List.ext_getElem? fun j => ?_
  rw [List.getElem?_take]
  by_cases hj : j < i + 2
  · rw [if_pos hj]
    by_cases h1 : j < i
    · rw [List.getElem?_set_ne (by omega), List.getElem?_set_ne (by omega), List.getElem?_append_left (by rw [List.length_take]; omega), List.getElem?_take, if_pos h1]
    · rw [List.getElem?_append_right (by rw [List.length_take]; omega), List.length_take, Nat.min_eq_left (by omega)]
      have hc : j = i ∨ j = i + 1 := by omega
      rcases hc with rfl | rfl
      · rw [List.getElem?_set_ne (by omega), List.getElem?_set_self (by omega), Nat.sub_self]; first | done | rfl
      · rw [List.getElem?_set_self (by simp; omega), Nat.add_sub_cancel_left]; rfl
  · rw [if_neg hj, List.getElem?_eq_none (by simp; omega)]

set_option maxRecDepth 100000 in
set_option maxHeartbeats 4000000 in
theorem deleteP_any {w : World} {base b n : Nat} {A0 : Option Addr} {ps : List (List Int × Int)} {cells : List Value} (c0 : Nat) (h : OP w base b (.slice A0 n c0) ps cells) (hn : n ≤ 1000000000000) :
    Calls Try.prog 109 #[.slice A0 n c0, .func (.func 110) #[] #[]] w (DelP w base b (.slice A0 n c0) (nz ps)) := by
  obtain ⟨A', n', c', hv, hn0, hc, hc63⟩ := h.form
  obtain ⟨rfl, rfl, rfl⟩ := slice_inj hv
  have HN := Lib.hid hn0
  have HH := Lib.hid h
  have HI := Lib.hid (indexP_any c0 h hn)
  clear hv hn0 h
  go_enter Try.func109, Try.ntmps109
  go_wp2_with fail
  refine HI.out.mono ?_
  rintro e w1 ⟨hcase, b1⟩
  rcases hcase with ⟨i0, hi0, rfl, hz0, hall⟩ | ⟨rfl, hall⟩
  · -- one goes
    have hne1 : ((i0 : Int) == -1) = false := by simp
    have ho1 := HH.out.below b1
    obtain ⟨g, cc, hG, hgb, hgl⟩ := OF.shape ho1 (by rw [HN.out]; omega)
    obtain ⟨rfl, e2, e3⟩ := slice_inj hG
    clear e2 e3 hG
    -- the row as a block
    obtain ⟨cur0, hk0, hcl0, hct0, hxl⟩ : ∃ cur0, BK w1 g 62 cur0 ∧ cur0.length = c0 * 2 ∧ cur0.take (n * 2) = cells ∧ cells.length = n * 2 := by
      rcases ho1.1.2 with ⟨he, h0⟩ | ⟨g', cap, cur, he, hb', hg', hnc, hcm, hs, ht⟩
      · obtain ⟨he1, _, _⟩ := slice_inj he; cases he1
      · obtain ⟨e1, e2, e3⟩ := slice_inj he
        injection e1 with e1
        injection e1 with e1
        subst e1 e3
        refine ⟨cur.toList, by unfold BK; simpa using hg', by simpa using hs, ?_, ?_⟩
        · rw [← HN.out]; exact ht
        · rw [← HN.out]; exact ho1.1.1
    have HXL := Lib.hid hxl
    have hfr1 := Lib.hid ho1.2.1
    have hd1 := Lib.hid ho1.2.2
    have hkept0 : keptP ps cells (i0 + 1) = cells.take (i0 * 2) := by
      rw [keptP, if_pos hz0]
      exact keptP_all i0 (by rw [HN.out]; omega) (by rw [HXL.out, HN.out]) hall
    have hnzl : (nz (ps.take (i0 + 1))).length = i0 := by
      have h1 := keptP_len (ps := ps) (cells := cells) (by rw [HXL.out, HN.out]) (i0 + 1) (by rw [HN.out]; omega)
      rw [hkept0, List.length_take, HXL.out] at h1
      omega
    have HK0 := Lib.hid hk0
    have HC0 : Hid (cur0.take (i0 * 2) = keptP ps cells (i0 + 1)) := by
      show _ = _
      rw [hkept0, ← hct0, List.take_take, Nat.min_eq_left (by omega)]
    have HR0 : Hid (∀ p, p < n * 2 → cur0[p]? = cells[p]?) := fun p hp => by rw [← hct0, List.getElem?_take, if_pos hp]
    have HB1 := Lib.hid b1
    have HGL := Lib.hid hgl
    clear hk0 hct0 hall hz0 hkept0 b1 ho1 hxl
    go_wp2
    go_loopw [5, 6, 7] (fun iv jv _ wr => ∃ (i j : Nat) (cur : List Value), i + 1 ≤ j ∧ j ≤ n ∧ iv = .int .i64 (i : Int) ∧ jv = .int .i64 (j : Int) ∧ Hid (i = (nz (ps.take j)).length) ∧ Hid (BK wr g 62 cur) ∧ cur.length = c0 * 2 ∧ Hid (cur.take (i * 2) = keptP ps cells j) ∧ Hid (∀ p, j * 2 ≤ p → p < n * 2 → cur[p]? = cells[p]?) ∧ Hid (w1.grownBy wr (some g))) (fun _ jv _ _ => n - (intOf jv).toNat)
    case atStart => exact ⟨i0, i0 + 1, cur0, Nat.le_refl _, by omega, rfl, by simp, hnzl.symm, HK0, hcl0, HC0, fun p _ hp => HR0.out p hp, World.grownBy.refl _ _⟩
    case round =>
      obtain ⟨i, j, cur, hij, hj, rfl, rfl, hil, hk, hcl, htk, hrst, hgr⟩ := hrel
      by_cases hlt : j < n
      · obtain ⟨t, cn, hqt⟩ : ∃ t cn, nthP ps j = (t, cn) := ⟨_, _, rfl⟩
        have hfj0 := hfr1.out.at_ (partF_at0 (ps := ps) (k := j) (by rw [HN.out]; exact hlt))
        have hfj1 := hfr1.out.at_ (partF_at1 (ps := ps) (k := j) (by rw [HN.out]; exact hlt))
        rw [hqt] at hfj0 hfj1
        obtain ⟨u0, hu0, hf0⟩ := hfj0
        obtain ⟨u1, hu1, hf1⟩ := hfj1
        have hf2' : u1 = .int .i64 cn := hf1
        have hf1' : OI w1 b u0 t := hf0
        subst hf2'
        obtain ⟨A1, n1, c1, rfl, _⟩ := hf1'.form
        have x0 := hk.out.cell ((hrst.out (j * 2) (Nat.le_refl _) (by omega)).trans hu0)
        have x1 := hk.out.cell ((hrst.out (j * 2 + 1) (by omega) (by omega)).trans hu1)
        have HD3 : Hid ((cells.drop (j * 2)).take 2 = [.slice A1 n1 c1, .int .i64 cn]) := by
          show _ = _
          have hl3 : j * 2 + 2 ≤ cells.length := by rw [HXL.out]; omega
          refine List.ext_getElem? fun x => ?_
          rw [List.getElem?_take]
          by_cases hx : x < 2
          · rw [if_pos hx, List.getElem?_drop]
            have hc : x = 0 ∨ x = 1 := by omega
            rcases hc with rfl | rfl
            · exact hu0
            · exact hu1
          · rw [if_neg hx, List.getElem?_eq_none (by simp; omega)]
        have HQT := Lib.hid hqt
        have HCT := Lib.hid hcl
        have hglr := hk.out.lt
        clear hu0 hu1 hf0 hf1 hf1' hqt
        go_wp2_with fail
        refine (isZeroP_any _ _).mono ?_
        rintro e w3 ⟨rfl, b3⟩
        have bbx : Below wr.heap.size wr (wr.alloc (.cells #[.slice A1 n1 c1, .int .i64 cn] 62)) := (Below.refl _ _).alloc (Nat.le_refl _) _
        have b3w : Below wr.heap.size wr w3 := bbx.trans (b3.mono bbx.size)
        have kv : BK w3 wr.heap.size 62 [.slice A1 n1 c1, .int .i64 cn] := BK.below (BK.new wr _ _) b3 (by simp)
        have hk3 : Hid (BK w3 g 62 cur) := hk.out.below b3w hglr
        have hg3 : Hid (w1.grownBy w3 (some g)) := ⟨b3w.os.trans hgr.out.os, b3w.tape.trans hgr.out.tape, b3w.output.trans hgr.out.output, Nat.le_trans hgr.out.size b3w.size, fun k hk' hne => (b3w.block k (Nat.lt_of_lt_of_le hk' hgr.out.size)).trans (hgr.out.block k hk' hne)⟩
        have y0 := kv.cell (j := 0) rfl
        have y1 := kv.cell (j := 1) rfl
        clear x0 x1 b3 bbx b3w kv
        rcases hd : decide (cn = 0) with _ | _
        · have hcn0 : cn ≠ 0 := of_decide_eq_false hd
          have HZ : Hid ((nthP ps j).2 ≠ 0) := by show _ ≠ _; rw [HQT.out]; exact hcn0
          have HNZ : Hid (i + 1 = (nz (ps.take (j + 1))).length) := by show _ = _; rw [nz_succ (by rw [HN.out]; exact hlt), if_neg HZ.out, List.length_append, ← hil.out]; rfl
          have hin : (i : Int) < (n : Int) := by omega
          obtain ⟨o0, ho0⟩ : ∃ o0, cur[i * 2]? = some o0 := ⟨_, List.getElem?_eq_getElem (by omega)⟩
          obtain ⟨o1, ho1⟩ : ∃ o1, cur[i * 2 + 1]? = some o1 := ⟨_, List.getElem?_eq_getElem (by omega)⟩
          have z0 := hk3.out.cell ho0
          have z1 := hk3.out.cell ho1
          have f0 := hk3.out.frozen (j := i * 2)
          have f1 := hk3.out.frozen (j := i * 2 + 1)
          have HKF : Hid (BK ((w3.setCell ⟨g, i * 2, none⟩ (.slice A1 n1 c1)).setCell ⟨g, i * 2 + 1, none⟩ (.int .i64 cn)) g 62 ((cur.set (i * 2) (.slice A1 n1 c1)).set (i * 2 + 1) (.int .i64 cn))) :=
            (hk3.out.set _ _).set _ _
          have HGF : Hid (w1.grownBy ((w3.setCell ⟨g, i * 2, none⟩ (.slice A1 n1 c1)).setCell ⟨g, i * 2 + 1, none⟩ (.int .i64 cn)) (some g)) := by
            refine ⟨hg3.out.os, hg3.out.tape, hg3.out.output, by simpa [World.setCell] using hg3.out.size, fun k hk' hne => ?_⟩
            have hkg : k ≠ g := fun e => hne (by rw [e])
            rw [Below.heap_setCell _ _ _ _ hkg, Below.heap_setCell _ _ _ _ hkg]
            exact hg3.out.block k hk' hne
          have HTF : Hid (((cur.set (i * 2) (.slice A1 n1 c1)).set (i * 2 + 1) (.int .i64 cn)).take ((i + 1) * 2) = keptP ps cells (j + 1)) := by
            show _ = _
            rw [show (i + 1) * 2 = i * 2 + 2 by omega, take_set2 _ _ _ _ (by omega), htk.out, keptP, if_neg HZ.out, HD3.out]
          have HRF : Hid (∀ p, (j + 1) * 2 ≤ p → p < n * 2 → ((cur.set (i * 2) (.slice A1 n1 c1)).set (i * 2 + 1) (.int .i64 cn))[p]? = cells[p]?) := fun p h1 h2 => by
            rw [List.getElem?_set_ne (by omega), List.getElem?_set_ne (by omega)]
            exact hrst.out p (by omega) h2
          have hclF : ((cur.set (i * 2) (.slice A1 n1 c1)).set (i * 2 + 1) (.int .i64 cn)).length = c0 * 2 := by simp [hcl]
          clear hd hcn0 ho0 ho1
          go_wp2
          go_roundw
          case rel => exact ⟨i + 1, j + 1, _, by omega, by omega, by go_num, by go_num, HNZ, HKF, hclF, HTF, HRF, HGF⟩
          case measure => simp [intOf]; omega
        · have HZ : Hid ((nthP ps j).2 = 0) := by show _ = _; rw [HQT.out]; exact of_decide_eq_true hd
          have HNZ : Hid (i = (nz (ps.take (j + 1))).length) := by show _ = _; rw [nz_succ (by rw [HN.out]; exact hlt), if_pos HZ.out]; exact hil.out
          have HTF : Hid (cur.take (i * 2) = keptP ps cells (j + 1)) := by show _ = _; rw [keptP, if_pos HZ.out]; exact htk.out
          clear hd
          go_wp2
          go_roundw
          case rel => exact ⟨i, j + 1, cur, by omega, by omega, rfl, by go_num, HNZ, hk3, hcl, HTF, fun p h1 h2 => hrst.out p (by omega) h2, hg3⟩
          case measure => simp [intOf]; omega
      · obtain rfl : j = n := by omega
        have hin : i < j := by omega
        have hall : ps.take j = ps := by rw [← HN.out, List.take_length]
        have hil2 := hil.out
        rw [hall] at hil2
        obtain ⟨Z, hZ⟩ : ∃ Z, Z = (Builtin.zeroCells (Value.agg #[.slice none 0 0, .int .i64 0]).cells (j - i)).toList := ⟨_, rfl⟩
        have hZl : Z.length = (j - i) * 2 := by rw [hZ]; simp [Builtin.zeroCells, Value.cells]
        obtain ⟨R, hR⟩ : ∃ R, R = cur.take (i * 2) ++ Z ++ cur.drop (i * 2 + (j - i) * 2) := ⟨_, rfl⟩
        have hRl : R.length = c0 * 2 := by rw [hR, List.length_append, List.length_append, List.length_take, List.length_drop, hZl, hcl]; omega
        have hRt : R.take (i * 2) = keptP ps cells j := by
          rw [hR, List.append_assoc, List.take_append_of_le_length (by rw [List.length_take]; omega), List.take_take, Nat.min_self, htk.out]
        obtain ⟨W, hW⟩ : ∃ W, W = wr.setRow g R.toArray := ⟨_, rfl⟩
        obtain ⟨ti, hti, htz, hts, htb⟩ := info_parts Try.infoPart
        have hclr : Hid (∀ ty, (Builtin.clear_ #[33] ty #[.slice (some ⟨g, i * 2, none⟩) (j - i) (c0 - i)]).run Try.prog wr = .ok (.tuple #[]) W) := fun ty => by
          have := run_clear_rowK (P := Try.prog) wr 33 62 ty ti _ 2 Try.underlying33 hti htz rfl (by intro v hv; simp [Value.cells] at hv; rcases hv with rfl | rfl <;> rfl) g (i * 2) (j - i) (c0 - i) cur.toArray 62 hk.out (by omega) (by simp only [List.size_toArray]; omega) (by omega)
          rw [this, hW, hR, hZ]
        have hgW : W.heap[g]? = some (.cells R.toArray 62 (0, 0)) := by rw [hW]; exact setRow_heap wr g _ _ _ _ hk.out
        have hgrW : w1.grownBy W (some g) := by
          refine ⟨?_, ?_, ?_, ?_, fun k hk' hne => ?_⟩
          · rw [hW]; exact hgr.out.os
          · rw [hW]; exact hgr.out.tape
          · rw [hW]; exact hgr.out.output
          · rw [hW]; simpa [World.setRow] using hgr.out.size
          · have hkg : k ≠ g := fun e => hne (by rw [e])
            rw [hW, setRow_other _ _ _ _ (by omega)]
            exact hgr.out.block k hk' hne
        have hfin : Hid (DelP w base b (.slice (some ⟨g, 0, none⟩) j c0) (nz ps) (.returned (.slice (some ⟨g, 0, none⟩) i c0)) W) := by
          refine ⟨_, keptP ps cells j, rfl, ⟨⟨?_, .inr ⟨g, c0, R.toArray, ?_, hgb, hgW, ?_, by simpa [maxLen] using hc63, by simpa using hRl, ?_⟩⟩, ?_, ?_⟩, ?_⟩
          · rw [keptP_len (by rw [HXL.out, HN.out]) j (by rw [HN.out]; exact Nat.le_refl _), hall]
          · rw [← hil2]
          · rw [← hil2]; omega
          · rw [← hil2]; simpa using hRt
          · have h1 := keptP_FRs hfr1.out j (by rw [HN.out]; exact Nat.le_refl _)
            rw [hall] at h1
            exact h1.kept_type hgrW (fun g' e => by injection e with e; subst e; exact ⟨_, _, _, HK0.out, by decide⟩)
          · exact hd1.out.sub ((keptP_sub j).trans (List.take_sublist _ _))
          · have hb := HB1.out
            refine ⟨hgrW.os.trans hb.os, hgrW.tape.trans hb.tape, hgrW.output.trans hb.output, Nat.le_trans hb.size hgrW.size, fun k hk' hne => ?_⟩
            exact (hgrW.block k (Nat.lt_of_lt_of_le hk' hb.size) hne).trans (hb.block k hk')
        have hi2 : ¬ (c0 = i) := by omega
        have hi3 : i ≤ j := by omega
        have hi4 : (i : Int) ≤ (j : Int) := by omega
        have hi5 : i ≤ c0 := by omega
        clear hil hil2 htk hrst hgr hk hall hW hR hZ hgW hgrW hRt hRl hZl hti htz hts htb
        go_wp2_with (refine wpList_clearR rfl (.tmp 38) 33 rfl (.slice (some ⟨g, i * 2, none⟩) (j - i) (c0 - i)) rfl hclr.out ?_)
        go_ret
        exact hfin.out
  · have hne1 : ((-1 : Int) == -1) = true := rfl
    have HF : Hid (DelP w base b (.slice A0 n c0) (nz ps) (.returned (.slice A0 n c0)) w1) := by
      refine ⟨_, cells, rfl, ?_, ⟨b1.os, b1.tape, b1.output, b1.size, fun k hk _ => b1.block k hk⟩⟩
      rw [nz_all (by rw [HN.out]; exact hall)]
      exact HH.out.below b1
    clear hall b1
    go_wp2
    go_ret
    exact HF.out
end Go.Proofs.Ytnljlophgolejaa

/- WeightedProduct of the program. -/
namespace Go.Proofs.Ytnljlophgolejaa
open Go.RowKit

/-- Is there a weighted product? -/
def wpOk (a b Y : List Int) : Bool := alikeB a b && shB (a.length : Int) Y
/-- The weighted product of two strings. -/
def wpB (a b Y : List Int) : List (List Int × Int) := if wpOk a b Y = true then nz ((spAll true a b).foldl (proS a.length (wtF a.length Y)) []) else []

theorem iNonzero_any {w : World} {base b n : Nat} {A0 : Option Addr} {ps : List (List Int × Int)} {cells : List Value} (c0 : Nat) (h : OP w base b (.slice A0 n c0) ps cells) (hn : n ≤ 1000000000000) :
    Calls Try.prog 73 #[.slice A0 n c0] w (DelP w base b (.slice A0 n c0) (nz ps)) := by
  have HI := Lib.hid (deleteP_any c0 h hn)
  clear h
  go_enter Try.func73, Try.ntmps73
  go_wp2_with fail
  refine HI.out.mono ?_
  rintro e w1 hq
  obtain ⟨v', cells', rfl, h1, h2⟩ := hq
  obtain ⟨A1, n1, c1, rfl, h3⟩ := h1.form
  have HF : Hid (DelP w base b (.slice A0 n c0) (nz ps) (.returned (.slice A1 n1 c1)) w1) := ⟨_, cells', rfl, h1, h2⟩
  clear h1 h2 h3
  go_wp2
  go_ret
  exact HF.out

theorem proS_len {n : Nat} {f : PZ → Int} : ∀ (l : List PZ) (s : List (List Int × Int)), (l.foldl (proS n f) s).length ≤ s.length + l.length := by
  intro l
  induction l with
  | nil => intro s; simp
  | cons p l ih =>
    intro s
    rw [List.foldl_cons, List.length_cons]
    have h5 := ih (proS n f s p)
    have h6 : (proS n f s p).length ≤ s.length + 1 := insZ_len (s := shapeStr (sideB n p.2.2 n)) (n := f p) s
    omega

set_option maxRecDepth 100000 in
set_option maxHeartbeats 1000000 in
theorem iWPro_any {Aa Ab Ay : Option Addr} {na nb ny : Nat} {a b Y : List Int} {w : World} (ca cb cy : Nat) (ha : RI w Aa na a) (hb : RI w Ab nb b) (hy : RI w Ay ny Y) (hna : na ≤ 1000000000) (hnb : nb ≤ 1000000000) (hny : ny ≤ 1000000000) :
    Calls Try.prog 30 #[.slice Aa na ca, .slice Ab nb cb, .slice Ay ny cy] w (MakesPB w (wpB a b Y) (wpOk a b Y)) := by
  have HA := Lib.hid ha
  have HB := Lib.hid hb
  have HY := Lib.hid hy
  obtain ⟨t1, ht1⟩ : ∃ t, t = alikeB a b := ⟨_, rfl⟩
  obtain ⟨w1, ew1⟩ : ∃ W : World, W = w.alloc (.cells #[.slice Ay ny cy] 22) := ⟨_, rfl⟩
  have b1 : Below w.heap.size w w1 := by rw [ew1]; exact (Below.refl _ _).alloc (Nat.le_refl _) _
  have k1 : BK w1 w.heap.size 22 [.slice Ay ny cy] := by rw [ew1]; exact BK.new w _ _
  have hs1 : w1.heap.size = w.heap.size + 1 := by rw [ew1]; simp
  have EW : Hid (w.alloc (.cells #[.slice Ay ny cy] 22) = w1) := ew1.symm
  have H1 : Hid (∀ W, Below w.heap.size w W → Calls Try.prog 56 #[.slice Aa na ca, .slice Ab nb cb] W (Gives W (.bool t1))) := fun W bW => by rw [ht1]; exact iAlike_any _ _ (HA.out.below bW) (HB.out.below bW) hna hnb
  have HT1 := Lib.hid ht1
  have K1 := Lib.hid k1
  have HB1 := Lib.hid b1
  clear ht1 ha hb hy ew1 b1 k1
  rcases t1 with _ | _
  · have HOK : Hid (wpOk a b Y = false) := by show _ = _; rw [wpOk, ← HT1.out]; rfl
    have HE : Hid (wpB a b Y = []) := by show _ = _; rw [wpB, if_neg (by rw [HOK.out]; simp)]
    go_enter Try.func30, Try.ntmps30
    go_wp2_with (go_at_call 56; (with_reducible refine (H1.out _ ?_).mono ?_); (rw [EW.out]; exact HB1.out); rintro e w' ⟨rfl, q1, rfl⟩)
    go_ret2
    rw [HE.out, HOK.out]
    rw [EW.out]
    exact MakesPB.of (OF.nil_ _ _ _ _ _) (below_drewN HB1.out _)
  obtain ⟨h1, h2, h3, h4⟩ := alike_str HT1.out.symm
  have hl7 := (isStrB_iff.1 h1).1
  have hna2 : a.length = na := HA.out.1
  have hnn : nb = na := by rw [← HB.out.1, ← h3, hna2]
  subst hnn
  by_cases h5 : nb ≤ 5
  case neg =>
    have HOK : Hid (wpOk a b Y = false) := by show _ = _; rw [wpOk, shB_big (by omega)]; simp
    have HE : Hid (wpB a b Y = []) := by show _ = _; rw [wpB, if_neg (by rw [HOK.out]; simp)]
    clear h1 h2 h3 h4 hl7 hna2
    have hgt : (5 : Int) < (nb : Int) := by omega
    have hgt2 : ¬ ((nb : Int) ≤ 5) := by omega
    go_enter Try.func30, Try.ntmps30
    go_wp2_with (go_at_call 56; (with_reducible refine (H1.out _ ?_).mono ?_); (rw [EW.out]; exact HB1.out); rintro e w' ⟨rfl, q1, rfl⟩)
    go_ret2
    rw [HE.out, HOK.out]
    rw [EW.out]
    exact MakesPB.of (OF.nil_ _ _ _ _ _) (below_drewN HB1.out _)
  have h5i : (nb : Int) ≤ 5 := by omega
  have h5j : ¬ ((5 : Int) < (nb : Int)) := by omega
  obtain ⟨t2, ht2⟩ : ∃ t, t = shB (nb : Int) Y := ⟨_, rfl⟩
  have H2 : Hid (∀ W, Below w.heap.size w W → Calls Try.prog 70 #[.slice Ay ny cy, .int .i64 (nb : Int)] W (Gives W (.bool t2))) := fun W bW => by rw [ht2]; exact iShifts_any _ _ (HY.out.below bW) hny (by omega)
  have HT2 := Lib.hid ht2
  have HOK : Hid (wpOk a b Y = t2) := by show _ = _; rw [wpOk, ← HT1.out, hna2, ← ht2]; rfl
  clear ht2
  rcases t2 with _ | _
  · have HE : Hid (wpB a b Y = []) := by show _ = _; rw [wpB, if_neg (by rw [HOK.out]; simp)]
    clear h1 h2 h3 h4 hl7 hna2
    go_enter Try.func30, Try.ntmps30
    go_wp2_with (first
      | (go_at_call 56; (with_reducible refine (H1.out _ ?_).mono ?_); (rw [EW.out]; exact HB1.out); rintro e w' ⟨rfl, q1, rfl⟩)
      | (go_at_call 70; (with_reducible refine (H2.out _ ?_).mono ?_); (rw [EW.out]; exact below_drewN HB1.out _); rintro e w' ⟨rfl, q2, rfl⟩))
    go_ret2
    rw [HE.out, HOK.out]
    rw [EW.out]
    exact MakesPB.of (OF.nil_ _ _ _ _ _) (below_drewN HB1.out _)
  have hsh : shB (nb : Int) Y = true := HT2.out.symm
  have HSH := Lib.hid hsh
  have HE : Hid (wpB a b Y = nz ((spAll true a b).foldl (proS nb (wtF nb Y)) [])) := by show _ = _; rw [wpB, if_pos HOK.out, hna2]
  have HS1 := Lib.hid h1
  have HOKP : Hid (∀ q ∈ tlAll true a b, okP nb q) := by have := tl_okP (wt := true) HT1.out.symm; rw [hna2] at this; exact this
  have hn17 : 1 ≤ nb ∧ nb ≤ 7 := by omega
  have hlen : (tlAll true a b).length ≤ 59049 := by rw [(tlAll_perm true HS1.out).length_eq]; exact spAll_len5w HS1.out (by omega)
  have HLEN := Lib.hid hlen
  clear h1 h2 h3 h4 hl7 hna2 hsh hlen
  go_enter Try.func30, Try.ntmps30
  go_wp2_with (first
    | (go_at_call 56; (with_reducible refine (H1.out _ ?_).mono ?_); (rw [EW.out]; exact HB1.out); rintro e w' ⟨rfl, q1, rfl⟩)
    | (go_at_call 70; (with_reducible refine (H2.out _ ?_).mono ?_); (rw [EW.out]; exact below_drewN HB1.out _); rintro e w' ⟨rfl, q2, rfl⟩))
  rw [EW.out]
  obtain ⟨w2, ew2⟩ : ∃ W : World, W = w1.drewN (q1 + q2) := ⟨_, rfl⟩
  have b2 : Below w.heap.size w w2 := by rw [ew2]; exact below_drewN HB1.out _
  have k2 : BK w2 w.heap.size 22 [.slice Ay ny cy] := by rw [ew2]; exact K1.out
  have hs2 : w2.heap.size = w.heap.size + 1 := by rw [ew2]; exact hs1
  obtain ⟨wy, ewy⟩ : ∃ W : World, W = w2.alloc (.cells #[] 62) := ⟨_, rfl⟩
  have by_ : Below w.heap.size w wy := by rw [ewy]; exact b2.alloc b2.size _
  have oy : OP wy w.heap.size w.heap.size (.slice (some ⟨w.heap.size + 1, 0, none⟩) 0 0) [] [] := by rw [ewy, ← hs2]; exact OP.lit w2 _ _ b2.size
  have hsy : wy.heap.size = w.heap.size + 1 + 1 := by rw [ewy]; simp; omega
  obtain ⟨wz, ewz⟩ : ∃ W : World, W = wy.alloc (.cells #[.slice (some ⟨w.heap.size + 1, 0, none⟩) 0 0] 33) := ⟨_, rfl⟩
  have bz : Below w.heap.size w wz := by rw [ewz]; exact by_.alloc by_.size _
  have oz : OP wz w.heap.size w.heap.size (.slice (some ⟨w.heap.size + 1, 0, none⟩) 0 0) [] [] := by rw [ewz]; exact OP.below oy ((Below.refl _ _).alloc (Nat.le_refl _) _)
  have kz : BK wz (w.heap.size + 1 + 1) 33 [.slice (some ⟨w.heap.size + 1, 0, none⟩) 0 0] := by rw [ewz, ← hsy]; exact BK.new wy _ _
  have kyz : BK wz w.heap.size 22 [.slice Ay ny cy] := by rw [ewz, ewy]; exact (k2.alloc _).alloc _
  rw [← ew2, ← ewy, ← ewz]
  clear ew2 b2 k2 ewy by_ oy ewz
  have hI : ProI w [(w.heap.size, 22, .slice Ay ny cy)] (w.heap.size + 1 + 1) wz [] (fun k => k = w.heap.size ∨ k = w.heap.size + 1 + 1 ∨ k = w.heap.size + 1) :=
    ⟨⟨_, [], fun k => by simp [Value.ownBlock]; omega, kz, oz⟩, fun x hx => by rw [List.mem_singleton] at hx; subst hx; exact kyz, bz⟩
  refine (tilings_any (n := nb) true w a b Aa Ab ca cb (proCW (n := nb) (g := w.heap.size + 1 + 1) (gy := w.heap.size) (cy := cy) (by omega) (Nat.le_refl _) (by omega) HSH.out HY.out) hn17.2 hn17.1 HA.out HB.out hI bz ⟨0, by simp [Srt], by simp, by simp, by have := HLEN.out; omega, by have := HLEN.out; omega, by simp⟩ HOKP.out).mono ?_
  rintro e w3 ⟨rfl, O', i3, -, -⟩
  rw [seeAll_all (fun _ _ => rfl)] at i3
  dsimp only at i3
  rw [proS_perm (tlAll_perm true HS1.out)] at i3
  obtain ⟨v, cells, -, k3, o3⟩ := i3.ex
  have hl3 : ((spAll true a b).foldl (proS nb (wtF nb Y)) []).length ≤ 59049 := by
    have h1 := spAll_len5w (wt := true) (b := b) HS1.out (by rw [HA.out.1]; exact h5)
    have h2 := proS_len (n := nb) (f := wtF nb Y) (spAll true a b) []
    simp only [List.length_nil] at h2
    omega
  obtain ⟨A3, n3, c3, rfl, hn3, -, -⟩ := o3.form
  have g3 := k3.cell (j := 0) rfl
  have HN := Lib.hid (iNonzero_any c3 o3 (by omega))
  have O3 := Lib.hid o3
  have HB3 := Lib.hid i3.bel
  clear i3 hI bz kz oz k3 o3 hn3 hl3 kyz
  go_wp2_with fail
  refine HN.out.mono ?_
  rintro e w4 ⟨v4, cells4, rfl, o4, gr4⟩
  have b4 : Below w.heap.size w w4 := HB3.out.grown gr4 HB3.out.size (fun k hk => (OF.lt O3.out k hk).1)
  obtain ⟨A4, n4, c4, rfl, -, -, -⟩ := o4.form
  have HF : Hid (MakesPB w (wpB a b Y) (wpOk a b Y) (.returned (.tuple #[.slice A4 n4 c4, .bool true])) w4) := by rw [HOK.out, HE.out]; exact MakesPB.of o4 b4
  clear o4 gr4 b4
  go_wp2
  go_ret2
  exact HF.out
end Go.Proofs.Ytnljlophgolejaa
