/- slices.DeleteFunc over shapes with powers: those of count 0 go. -/
import Derived.Test.YtbemglmnnehllaaQIns
import Derived.Test.YtbemglmnnehllaaQAdd
namespace Go.Proofs.Ytbemglmnnehllaa
open Go.RowKit

theorem run_clear_rowK {P : Program} (w : World) (t e ty : TypeId) (i0 : TypeInfo) (z : Value) (k : Nat) (ht : P.underlying t = some (.slice e)) (hi : P.info? e = some i0) (hz : i0.zero = some z) (hk : z.cells.size = k) (h1 : ∀ v ∈ z.cells.toList, v.oneCell' = true)
    (g o n c : Nat) (cur : Array Value) (T : TypeId) (hg : w.heap[g]? = some (.cells cur T (0, 0))) (hn : 0 < n) (hfit : o + n * k ≤ cur.size) (hk0 : 0 < k) :
    (Builtin.clear_ #[t] ty #[.slice (some ⟨g, o, none⟩) n c]).run P w = .ok (.tuple #[]) (w.setRow g (cur.toList.take o ++ (Builtin.zeroCells z.cells n).toList ++ cur.toList.drop (o + n * k)).toArray) := by
  have hl : (Builtin.zeroCells z.cells n).toList.length = n * k := by simp [Builtin.zeroCells, hk]
  have hone : ∀ v ∈ (Builtin.zeroCells z.cells n).toList, v.oneCell' = true := by
    intro v hv
    simp only [Builtin.zeroCells, Array.toList_map, List.mem_map] at hv
    obtain ⟨x, hx, rfl⟩ := hv
    refine h1 _ ?_
    have hlt : x % z.cells.size < z.cells.size := Nat.mod_lt _ (by omega)
    rw [getElem!_pos z.cells (x % z.cells.size) hlt, ← Array.getElem_toList]
    exact List.getElem_mem _
  have hst := run_storeCells_at P g o T (Builtin.zeroCells z.cells n).toList 0 cur w hg (by rw [hl]; simpa using hfit) hone
  simp only [Nat.add_zero, hl] at hst
  have hv : (zeroValue e).run P w = .ok z w := by simp [zeroValue, typeInfo, hi, hz]
  obtain ⟨m, rfl⟩ : ∃ m, n = m + 1 := ⟨n - 1, by omega⟩
  simp [Builtin.clear_, run_underlying ht, hv, hst]
theorem wpList_clearR {P : Program} {w : World} {ops : Array Oper} {rest : List Oper} {o : Oper} {a : Act} {Q : Exit → Act → World → Prop} (hgd : o.guard = none) (d : Operand) (dT : TypeId)
    (ho : o.op = .call { callee := .builtin .clear, args := #[d], argTypes := #[dT] }) (v : Value) (hd : a.eval d = v) {v' : Value} {w' : World}
    (hr : ∀ ty, (Builtin.clear_ #[dT] ty #[v]).run P w = .ok v' w') (h : wpList P ops Q rest (a.put o.dst v') w') : wpList P ops Q (o :: rest) a w := by
  refine wpList_plain hgd fun K hK => ?_
  unfold Oper.wp
  simp [execOp, ho, resolve, invoke, builtin, hd, hr, Result.andThen]
  exact hK _ _ h

/-- Those of count 0 struck. -/
def nzQ (ps : List QT) : List QT := ps.filter fun x => decide (x.2.2 ≠ 0)
theorem nzQ_dec (ps : List (List Int × Int)) : nzQ (decL ps) = decL (nz ps) := by
  unfold nzQ decL nz
  rw [List.filter_map]
  rfl
theorem nzQ_succ {ps : List QT} {j : Nat} (h : j < ps.length) : nzQ (ps.take (j + 1)) = if (nthQ ps j).2.2 = 0 then nzQ (ps.take j) else nzQ (ps.take j) ++ [nthQ ps j] := by
  have e : nthQ ps j = ps[j] := by simp [nthQ, List.getD, h]
  unfold nzQ
  rw [List.take_succ_eq_append_getElem h, List.filter_append, e]
  by_cases h0 : ps[j].2.2 = 0 <;> simp [h0]
/-- The cells that stay, of the first j. -/
def keptC (ps : List QT) (cells : List Value) : Nat → List Value
  | 0 => []
  | j + 1 => if (nthQ ps j).2.2 = 0 then keptC ps cells j else keptC ps cells j ++ (cells.drop (j * 3)).take 3
theorem keptC_len {ps : List QT} {cells : List Value} (hl : cells.length = ps.length * 3) : ∀ j, j ≤ ps.length → (keptC ps cells j).length = (nzQ (ps.take j)).length * 3
  | 0, _ => rfl
  | j + 1, h => by
    have ih := keptC_len hl j (by omega)
    rw [keptC, nzQ_succ (by omega)]
    split
    · exact ih
    · rw [List.length_append, ih, List.length_append, List.length_take, List.length_drop]
      simp
      omega
theorem keptC_sub {ps : List QT} {cells : List Value} : ∀ j, (keptC ps cells j).Sublist (cells.take (j * 3))
  | 0 => List.Sublist.refl _
  | j + 1 => by
    have ih := keptC_sub (ps := ps) (cells := cells) j
    have e : cells.take ((j + 1) * 3) = cells.take (j * 3) ++ (cells.drop (j * 3)).take 3 := by
      rw [show (j + 1) * 3 = j * 3 + 3 by omega, List.take_add]
    rw [keptC, e]
    split
    · exact ih.trans (List.sublist_append_left _ _)
    · exact List.Sublist.append ih (List.Sublist.refl _)
theorem Dist.pairwise {cells : List Value} : Dist cells ↔ cells.Pairwise (fun u u' => u.ownBlock = none ∨ u.ownBlock ≠ u'.ownBlock) := by
  rw [List.pairwise_iff_getElem]
  constructor
  · intro h i j hi hj hij
    exact h i j _ _ hij (List.getElem?_eq_getElem hi) (List.getElem?_eq_getElem hj)
  · intro h i j u u' hij h1 h2
    obtain ⟨hi, e1⟩ := List.getElem?_eq_some_iff.1 h1
    obtain ⟨hj, e2⟩ := List.getElem?_eq_some_iff.1 h2
    rw [← e1, ← e2]
    exact h i j hi hj hij
theorem Dist.sub {cells c2 : List Value} (h : Dist cells) (hs : c2.Sublist cells) : Dist c2 := Dist.pairwise.2 ((Dist.pairwise.1 h).sublist hs)
theorem qF_drop3 {ps : List QT} {j : Nat} (h : j < ps.length) : ((qF ps).drop (j * 3)).take 3 = qF [nthQ ps j] := by
  rw [qF_drop]
  have e : ps.drop j = nthQ ps j :: ps.drop (j + 1) := by rw [List.drop_eq_getElem_cons h]; simp [nthQ, List.getD, h]
  rw [e]
  rfl
theorem keptC_FRs {w : World} {b : Nat} {ps : List QT} {cells : List Value} (h : FRs w b (qF ps) cells) : ∀ j, j ≤ ps.length → FRs w b (qF (nzQ (ps.take j))) (keptC ps cells j)
  | 0, _ => FRs.nil_
  | j + 1, hj => by
    have ih := keptC_FRs h j (by omega)
    rw [keptC, nzQ_succ (by omega)]
    split
    · exact ih
    · rw [qF_append]
      refine ih.append ?_
      rw [← qF_drop3 (by omega)]
      exact (h.drop (j * 3)).take 3

/-- The closure that QuantumProduct strikes by. -/
theorem isZero_any {A : Option Addr} {n : Nat} {w : World} (c : Nat) (q cn : Int) : Calls Try.prog 20 #[.agg #[.int .i64 q, .slice A n c, .int .i64 cn]] w (GivesB w (.bool (decide (cn = 0)))) := by
  have bx : Below w.heap.size w (w.alloc (.cells #[.int .i64 q, .slice A n c, .int .i64 cn] 44)) := (Below.refl _ _).alloc (Nat.le_refl _) _
  have e : (cn == 0) = decide (cn = 0) := rfl
  go_enter Try.func20, Try.ntmps20
  go_wp2
  go_ret
  first | exact ⟨rfl, bx⟩ | exact ⟨by rw [e], bx⟩

set_option maxRecDepth 100000 in
set_option maxHeartbeats 1000000 in
theorem indexQ_any {w : World} {base b n : Nat} {A0 : Option Addr} {ps : List QT} {cells : List Value} (c0 : Nat) (h : OU w base b (.slice A0 n c0) ps cells) (hn : n ≤ 1000000000000) :
    Calls Try.prog 44 #[.slice A0 n c0, .func (.func 20) #[] #[]] w
      (fun e w' => ((∃ i : Nat, i < n ∧ e = .returned (.int .i64 (i : Int)) ∧ (nthQ ps i).2.2 = 0 ∧ ∀ j, j < i → (nthQ ps j).2.2 ≠ 0) ∨ (e = .returned (.int .i64 (-1)) ∧ ∀ j, j < n → (nthQ ps j).2.2 ≠ 0)) ∧ Below w.heap.size w w') := by
  obtain ⟨A', n', c', hv, hn0, hc, _⟩ := h.form
  obtain ⟨rfl, rfl, rfl⟩ := slice_inj hv
  have HN := Lib.hid hn0
  have HH := Lib.hid h
  clear hv hn0 h
  go_enter Try.func44, Try.ntmps44
  go_wp2
  go_loopw [5, 8] (fun _ i wr => ∃ k : Nat, k ≤ n ∧ i = .int .i64 (k : Int) ∧ Hid (Below w.heap.size w wr) ∧ Hid (∀ j, j < k → (nthQ ps j).2.2 ≠ 0)) (fun _ i _ => n - (intOf i).toNat)
  case atStart => exact ⟨0, Nat.zero_le _, rfl, Below.refl _ _, fun j hj => by omega⟩
  case round =>
    obtain ⟨k, hk, rfl, hb, ht⟩ := hrel
    by_cases hlt : k < n
    · have ho := HH.out.below hb.out
      obtain ⟨G, cc, hG, _⟩ := OF.shape ho (by rw [HN.out]; omega)
      obtain ⟨rfl, e2, e3⟩ := slice_inj hG
      clear e2 e3 hG
      obtain ⟨A1, n1, c1, k0, k1, _, _, _, k4⟩ := OU.cell ho (k := k) (by rw [HN.out]; exact hlt)
      obtain ⟨q, hq⟩ : ∃ q, q = (nthQ ps k).1 := ⟨_, rfl⟩
      obtain ⟨cn, hcn⟩ : ∃ cn, cn = (nthQ ps k).2.2 := ⟨_, rfl⟩
      rw [← hq] at k0
      rw [← hcn] at k4
      have HCN := Lib.hid hcn
      clear hq hcn ho
      go_wp2_with fail
      refine (isZero_any _ _ _).mono ?_
      rintro e w2 ⟨rfl, b2⟩
      have HB2 : Hid (Below w.heap.size w w2) := hb.out.trans (b2.mono hb.out.size)
      clear b2
      rcases hd : decide (cn = 0) with _ | _
      · have hne : (nthQ ps k).2.2 ≠ 0 := by rw [← HCN.out]; exact of_decide_eq_false hd
        have HT : Hid (∀ j, j < k + 1 → (nthQ ps j).2.2 ≠ 0) := upTo (P := fun j => (nthQ ps j).2.2 ≠ 0) ht.out hne
        clear hd hne
        go_wp2
        go_roundw
        case rel => exact ⟨k + 1, by omega, by go_num, HB2, HT⟩
        case measure => simp [intOf]; omega
      · have HE : Hid ((nthQ ps k).2.2 = 0) := by show _ = _; rw [← HCN.out]; exact of_decide_eq_true hd
        clear hd
        go_wp2
        go_ret
        exact ⟨.inl ⟨k, hlt, rfl, HE.out, ht.out⟩, HB2.out⟩
    · obtain rfl : k = n := by omega
      go_wp2
      go_ret
      exact ⟨.inr ⟨rfl, ht.out⟩, hb.out⟩

/-- What DeleteFunc leaves. -/
def DelU (w : World) (base b : Nat) (v0 : Value) (ps : List QT) : Ending → World → Prop := fun e w' =>
  ∃ v' cells', e = .returned v' ∧ OU w' base b v' ps cells' ∧ w.grownBy w' v0.ownBlock
theorem nzQ_all {ps : List QT} (h : ∀ j, j < ps.length → (nthQ ps j).2.2 ≠ 0) : nzQ ps = ps := by
  unfold nzQ
  rw [List.filter_eq_self]
  intro x hx
  obtain ⟨j, hj, e⟩ := List.getElem_of_mem hx
  have := h j hj
  rw [show nthQ ps j = x from by simp [nthQ, List.getD, hj, e]] at this
  simpa using this
theorem keptC_all {ps : List QT} {cells : List Value} : ∀ j, j ≤ ps.length → cells.length = ps.length * 3 → (∀ i, i < j → (nthQ ps i).2.2 ≠ 0) → keptC ps cells j = cells.take (j * 3)
  | 0, _, _, _ => rfl
  | j + 1, h, hl, hz => by
    have ih := keptC_all j (by omega) hl fun i hi => hz i (by omega)
    rw [keptC, if_neg (hz j (by omega)), ih, show (j + 1) * 3 = j * 3 + 3 by omega, List.take_add]
theorem take_set3 {α : Type} (cur : List α) (i : Nat) (a b c : α) (h : i + 3 ≤ cur.length) : (((cur.set i a).set (i + 1) b).set (i + 2) c).take (i + 3) = cur.take i ++ [a, b, c] := by
  refine List.ext_getElem? fun j => ?_
  rw [List.getElem?_take]
  by_cases hj : j < i + 3
  · rw [if_pos hj]
    by_cases h1 : j < i
    · rw [List.getElem?_set_ne (by omega), List.getElem?_set_ne (by omega), List.getElem?_set_ne (by omega), List.getElem?_append_left (by rw [List.length_take]; omega), List.getElem?_take, if_pos h1]
    · rw [List.getElem?_append_right (by rw [List.length_take]; omega), List.length_take, Nat.min_eq_left (by omega)]
      have hc : j = i ∨ j = i + 1 ∨ j = i + 2 := by omega
      rcases hc with rfl | rfl | rfl
      · rw [List.getElem?_set_ne (by omega), List.getElem?_set_ne (by omega), List.getElem?_set_self (by omega), Nat.sub_self]; first | done | rfl
      · rw [List.getElem?_set_ne (by omega), List.getElem?_set_self (by simp; omega), Nat.add_sub_cancel_left]; rfl
      · rw [List.getElem?_set_self (by simp; omega), Nat.add_sub_cancel_left]; rfl
  · rw [if_neg hj, List.getElem?_eq_none (by simp; omega)]

set_option maxRecDepth 100000 in
set_option maxHeartbeats 4000000 in
theorem delete_any {w : World} {base b n : Nat} {A0 : Option Addr} {ps : List QT} {cells : List Value} (c0 : Nat) (h : OU w base b (.slice A0 n c0) ps cells) (hn : n ≤ 1000000000000) :
    Calls Try.prog 19 #[.slice A0 n c0, .func (.func 20) #[] #[]] w (DelU w base b (.slice A0 n c0) (nzQ ps)) := by
  obtain ⟨A', n', c', hv, hn0, hc, hc63⟩ := h.form
  obtain ⟨rfl, rfl, rfl⟩ := slice_inj hv
  have HN := Lib.hid hn0
  have HH := Lib.hid h
  have HI := Lib.hid (indexQ_any c0 h hn)
  clear hv hn0 h
  go_enter Try.func19, Try.ntmps19
  go_wp2_with fail
  refine HI.out.mono ?_
  rintro e w1 ⟨hcase, b1⟩
  rcases hcase with ⟨i0, hi0, rfl, hz0, hall⟩ | ⟨rfl, hall⟩
  · -- one goes
    have hne1 : ((i0 : Int) == -1) = false := by simp
    have ho1 := HH.out.below b1
    obtain ⟨g, cc, hG, hgb, hgl⟩ := OF.shape ho1 (by rw [HN.out]; omega)
    obtain ⟨rfl, e2, e3⟩ := slice_inj hG
    clear e2 e3 hG
    -- the row as a block
    obtain ⟨cur0, hk0, hcl0, hct0, hxl⟩ : ∃ cur0, BK w1 g 44 cur0 ∧ cur0.length = c0 * 3 ∧ cur0.take (n * 3) = cells ∧ cells.length = n * 3 := by
      rcases ho1.1.2 with ⟨he, h0⟩ | ⟨g', cap, cur, he, hb', hg', hnc, hcm, hs, ht⟩
      · obtain ⟨he1, _, _⟩ := slice_inj he; cases he1
      · obtain ⟨e1, e2, e3⟩ := slice_inj he
        injection e1 with e1
        injection e1 with e1
        subst e1 e3
        refine ⟨cur.toList, by unfold BK; simpa using hg', by simpa using hs, ?_, ?_⟩
        · rw [← HN.out]; exact ht
        · rw [← HN.out]; exact ho1.1.1
    have HXL := Lib.hid hxl
    have hfr1 := Lib.hid ho1.2.1
    have hd1 := Lib.hid ho1.2.2
    have hkept0 : keptC ps cells (i0 + 1) = cells.take (i0 * 3) := by
      rw [keptC, if_pos hz0]
      exact keptC_all i0 (by rw [HN.out]; omega) (by rw [HXL.out, HN.out]) hall
    have hnzl : (nzQ (ps.take (i0 + 1))).length = i0 := by
      have h1 := keptC_len (ps := ps) (cells := cells) (by rw [HXL.out, HN.out]) (i0 + 1) (by rw [HN.out]; omega)
      rw [hkept0, List.length_take, HXL.out] at h1
      omega
    have HK0 := Lib.hid hk0
    have HC0 : Hid (cur0.take (i0 * 3) = keptC ps cells (i0 + 1)) := by
      show _ = _
      rw [hkept0, ← hct0, List.take_take, Nat.min_eq_left (by omega)]
    have HR0 : Hid (∀ p, p < n * 3 → cur0[p]? = cells[p]?) := fun p hp => by rw [← hct0, List.getElem?_take, if_pos hp]
    have HB1 := Lib.hid b1
    have HGL := Lib.hid hgl
    clear hk0 hct0 hall hz0 hkept0 b1 ho1 hxl
    go_wp2
    go_loopw [5, 6, 7] (fun iv jv _ wr => ∃ (i j : Nat) (cur : List Value), i + 1 ≤ j ∧ j ≤ n ∧ iv = .int .i64 (i : Int) ∧ jv = .int .i64 (j : Int) ∧ Hid (i = (nzQ (ps.take j)).length) ∧ Hid (BK wr g 44 cur) ∧ cur.length = c0 * 3 ∧ Hid (cur.take (i * 3) = keptC ps cells j) ∧ Hid (∀ p, j * 3 ≤ p → p < n * 3 → cur[p]? = cells[p]?) ∧ Hid (w1.grownBy wr (some g))) (fun _ jv _ _ => n - (intOf jv).toNat)
    case atStart => exact ⟨i0, i0 + 1, cur0, Nat.le_refl _, by omega, rfl, by simp, hnzl.symm, HK0, hcl0, HC0, fun p _ hp => HR0.out p hp, World.grownBy.refl _ _⟩
    case round =>
      obtain ⟨i, j, cur, hij, hj, rfl, rfl, hil, hk, hcl, htk, hrst, hgr⟩ := hrel
      by_cases hlt : j < n
      · obtain ⟨q, t, cn, hqt⟩ : ∃ q t cn, nthQ ps j = (q, t, cn) := ⟨_, _, _, rfl⟩
        have hfj0 := hfr1.out.at_ (qF_at0 (ps := ps) (k := j) (by rw [HN.out]; exact hlt))
        have hfj1 := hfr1.out.at_ (qF_at1 (ps := ps) (k := j) (by rw [HN.out]; exact hlt))
        have hfj2 := hfr1.out.at_ (qF_at2 (ps := ps) (k := j) (by rw [HN.out]; exact hlt))
        rw [hqt] at hfj0 hfj1 hfj2
        obtain ⟨u0, hu0, hf0⟩ := hfj0
        obtain ⟨u1, hu1, hf1⟩ := hfj1
        obtain ⟨u2, hu2, hf2⟩ := hfj2
        have hf0' : u0 = .int .i64 q := hf0
        have hf2' : u2 = .int .i64 cn := hf2
        have hf1' : OI w1 b u1 t := hf1
        subst hf0' hf2'
        obtain ⟨A1, n1, c1, rfl, _⟩ := hf1'.form
        have x0 := hk.out.cell ((hrst.out (j * 3) (Nat.le_refl _) (by omega)).trans hu0)
        have x1 := hk.out.cell ((hrst.out (j * 3 + 1) (by omega) (by omega)).trans hu1)
        have x2 := hk.out.cell ((hrst.out (j * 3 + 2) (by omega) (by omega)).trans hu2)
        have HD3 : Hid ((cells.drop (j * 3)).take 3 = [.int .i64 q, .slice A1 n1 c1, .int .i64 cn]) := by
          show _ = _
          have hl3 : j * 3 + 3 ≤ cells.length := by rw [HXL.out]; omega
          refine List.ext_getElem? fun x => ?_
          rw [List.getElem?_take]
          by_cases hx : x < 3
          · rw [if_pos hx, List.getElem?_drop]
            have hc : x = 0 ∨ x = 1 ∨ x = 2 := by omega
            rcases hc with rfl | rfl | rfl
            · exact hu0
            · exact hu1
            · exact hu2
          · rw [if_neg hx, List.getElem?_eq_none (by simp; omega)]
        have HQT := Lib.hid hqt
        have HCT := Lib.hid hcl
        have hglr := hk.out.lt
        clear hu0 hu1 hu2 hf0 hf1 hf2 hf1' hqt
        go_wp2_with fail
        refine (isZero_any _ _ _).mono ?_
        rintro e w3 ⟨rfl, b3⟩
        have bbx : Below wr.heap.size wr (wr.alloc (.cells #[.int .i64 q, .slice A1 n1 c1, .int .i64 cn] 44)) := (Below.refl _ _).alloc (Nat.le_refl _) _
        have b3w : Below wr.heap.size wr w3 := bbx.trans (b3.mono bbx.size)
        have kv : BK w3 wr.heap.size 44 [.int .i64 q, .slice A1 n1 c1, .int .i64 cn] := BK.below (BK.new wr _ _) b3 (by simp)
        have hk3 : Hid (BK w3 g 44 cur) := hk.out.below b3w hglr
        have hg3 : Hid (w1.grownBy w3 (some g)) := ⟨b3w.os.trans hgr.out.os, b3w.tape.trans hgr.out.tape, b3w.output.trans hgr.out.output, Nat.le_trans hgr.out.size b3w.size, fun k hk' hne => (b3w.block k (Nat.lt_of_lt_of_le hk' hgr.out.size)).trans (hgr.out.block k hk' hne)⟩
        have y0 := kv.cell (j := 0) rfl
        have y1 := kv.cell (j := 1) rfl
        have y2 := kv.cell (j := 2) rfl
        clear x0 x1 x2 b3 bbx b3w kv
        rcases hd : decide (cn = 0) with _ | _
        · have hcn0 : cn ≠ 0 := of_decide_eq_false hd
          have HZ : Hid ((nthQ ps j).2.2 ≠ 0) := by show _ ≠ _; rw [HQT.out]; exact hcn0
          have HNZ : Hid (i + 1 = (nzQ (ps.take (j + 1))).length) := by show _ = _; rw [nzQ_succ (by rw [HN.out]; exact hlt), if_neg HZ.out, List.length_append, ← hil.out]; rfl
          have hin : (i : Int) < (n : Int) := by omega
          obtain ⟨o0, ho0⟩ : ∃ o0, cur[i * 3]? = some o0 := ⟨_, List.getElem?_eq_getElem (by omega)⟩
          obtain ⟨o1, ho1⟩ : ∃ o1, cur[i * 3 + 1]? = some o1 := ⟨_, List.getElem?_eq_getElem (by omega)⟩
          obtain ⟨o2, ho2⟩ : ∃ o2, cur[i * 3 + 2]? = some o2 := ⟨_, List.getElem?_eq_getElem (by omega)⟩
          have z0 := hk3.out.cell ho0
          have z1 := hk3.out.cell ho1
          have z2 := hk3.out.cell ho2
          have f0 := hk3.out.frozen (j := i * 3)
          have f1 := hk3.out.frozen (j := i * 3 + 1)
          have f2 := hk3.out.frozen (j := i * 3 + 2)
          have HKF : Hid (BK (((w3.setCell ⟨g, i * 3, none⟩ (.int .i64 q)).setCell ⟨g, i * 3 + 1, none⟩ (.slice A1 n1 c1)).setCell ⟨g, i * 3 + 2, none⟩ (.int .i64 cn)) g 44 (((cur.set (i * 3) (.int .i64 q)).set (i * 3 + 1) (.slice A1 n1 c1)).set (i * 3 + 2) (.int .i64 cn))) :=
            ((hk3.out.set _ _).set _ _).set _ _
          have HGF : Hid (w1.grownBy (((w3.setCell ⟨g, i * 3, none⟩ (.int .i64 q)).setCell ⟨g, i * 3 + 1, none⟩ (.slice A1 n1 c1)).setCell ⟨g, i * 3 + 2, none⟩ (.int .i64 cn)) (some g)) := by
            refine ⟨hg3.out.os, hg3.out.tape, hg3.out.output, by simpa [World.setCell] using hg3.out.size, fun k hk' hne => ?_⟩
            have hkg : k ≠ g := fun e => hne (by rw [e])
            rw [Below.heap_setCell _ _ _ _ hkg, Below.heap_setCell _ _ _ _ hkg, Below.heap_setCell _ _ _ _ hkg]
            exact hg3.out.block k hk' hne
          have HTF : Hid ((((cur.set (i * 3) (.int .i64 q)).set (i * 3 + 1) (.slice A1 n1 c1)).set (i * 3 + 2) (.int .i64 cn)).take ((i + 1) * 3) = keptC ps cells (j + 1)) := by
            show _ = _
            rw [show (i + 1) * 3 = i * 3 + 3 by omega, take_set3 _ _ _ _ _ (by omega), htk.out, keptC, if_neg HZ.out, HD3.out]
          have HRF : Hid (∀ p, (j + 1) * 3 ≤ p → p < n * 3 → (((cur.set (i * 3) (.int .i64 q)).set (i * 3 + 1) (.slice A1 n1 c1)).set (i * 3 + 2) (.int .i64 cn))[p]? = cells[p]?) := fun p h1 h2 => by
            rw [List.getElem?_set_ne (by omega), List.getElem?_set_ne (by omega), List.getElem?_set_ne (by omega)]
            exact hrst.out p (by omega) h2
          have hclF : (((cur.set (i * 3) (.int .i64 q)).set (i * 3 + 1) (.slice A1 n1 c1)).set (i * 3 + 2) (.int .i64 cn)).length = c0 * 3 := by simp [hcl]
          clear hd hcn0 ho0 ho1 ho2
          go_wp2
          go_roundw
          case rel => exact ⟨i + 1, j + 1, _, by omega, by omega, by go_num, by go_num, HNZ, HKF, hclF, HTF, HRF, HGF⟩
          case measure => simp [intOf]; omega
        · have HZ : Hid ((nthQ ps j).2.2 = 0) := by show _ = _; rw [HQT.out]; exact of_decide_eq_true hd
          have HNZ : Hid (i = (nzQ (ps.take (j + 1))).length) := by show _ = _; rw [nzQ_succ (by rw [HN.out]; exact hlt), if_pos HZ.out]; exact hil.out
          have HTF : Hid (cur.take (i * 3) = keptC ps cells (j + 1)) := by show _ = _; rw [keptC, if_pos HZ.out]; exact htk.out
          clear hd
          go_wp2
          go_roundw
          case rel => exact ⟨i, j + 1, cur, by omega, by omega, rfl, by go_num, HNZ, hk3, hcl, HTF, fun p h1 h2 => hrst.out p (by omega) h2, hg3⟩
          case measure => simp [intOf]; omega
      · obtain rfl : j = n := by omega
        have hin : i < j := by omega
        have hall : ps.take j = ps := by rw [← HN.out, List.take_length]
        have hil2 := hil.out
        rw [hall] at hil2
        obtain ⟨Z, hZ⟩ : ∃ Z, Z = (Builtin.zeroCells (Value.agg #[.int .i64 0, .slice none 0 0, .int .i64 0]).cells (j - i)).toList := ⟨_, rfl⟩
        have hZl : Z.length = (j - i) * 3 := by rw [hZ]; simp [Builtin.zeroCells, Value.cells]
        obtain ⟨R, hR⟩ : ∃ R, R = cur.take (i * 3) ++ Z ++ cur.drop (i * 3 + (j - i) * 3) := ⟨_, rfl⟩
        have hRl : R.length = c0 * 3 := by rw [hR, List.length_append, List.length_append, List.length_take, List.length_drop, hZl, hcl]; omega
        have hRt : R.take (i * 3) = keptC ps cells j := by
          rw [hR, List.append_assoc, List.take_append_of_le_length (by rw [List.length_take]; omega), List.take_take, Nat.min_self, htk.out]
        obtain ⟨W, hW⟩ : ∃ W, W = wr.setRow g R.toArray := ⟨_, rfl⟩
        obtain ⟨ti, hti, htz, hts, htb⟩ := info_parts Try.infoQP
        have hclr : Hid (∀ ty, (Builtin.clear_ #[27] ty #[.slice (some ⟨g, i * 3, none⟩) (j - i) (c0 - i)]).run Try.prog wr = .ok (.tuple #[]) W) := fun ty => by
          have := run_clear_rowK (P := Try.prog) wr 27 44 ty ti _ 3 Try.underlying27 hti htz rfl (by intro v hv; simp [Value.cells] at hv; rcases hv with rfl | rfl | rfl <;> rfl) g (i * 3) (j - i) (c0 - i) cur.toArray 44 hk.out (by omega) (by simp only [List.size_toArray]; omega) (by omega)
          rw [this, hW, hR, hZ]
        have hgW : W.heap[g]? = some (.cells R.toArray 44 (0, 0)) := by rw [hW]; exact setRow_heap wr g _ _ _ _ hk.out
        have hgrW : w1.grownBy W (some g) := by
          refine ⟨?_, ?_, ?_, ?_, fun k hk' hne => ?_⟩
          · rw [hW]; exact hgr.out.os
          · rw [hW]; exact hgr.out.tape
          · rw [hW]; exact hgr.out.output
          · rw [hW]; simpa [World.setRow] using hgr.out.size
          · have hkg : k ≠ g := fun e => hne (by rw [e])
            rw [hW, setRow_other _ _ _ _ (by omega)]
            exact hgr.out.block k hk' hne
        have hfin : Hid (DelU w base b (.slice (some ⟨g, 0, none⟩) j c0) (nzQ ps) (.returned (.slice (some ⟨g, 0, none⟩) i c0)) W) := by
          refine ⟨_, keptC ps cells j, rfl, ⟨⟨?_, .inr ⟨g, c0, R.toArray, ?_, hgb, hgW, ?_, by simpa [maxLen] using hc63, by simpa using hRl, ?_⟩⟩, ?_, ?_⟩, ?_⟩
          · rw [keptC_len (by rw [HXL.out, HN.out]) j (by rw [HN.out]; exact Nat.le_refl _), hall]
          · rw [← hil2]
          · rw [← hil2]; omega
          · rw [← hil2]; simpa using hRt
          · have h1 := keptC_FRs hfr1.out j (by rw [HN.out]; exact Nat.le_refl _)
            rw [hall] at h1
            exact h1.kept_type hgrW (fun g' e => by injection e with e; subst e; exact ⟨_, _, _, HK0.out, by decide⟩)
          · exact hd1.out.sub ((keptC_sub j).trans (List.take_sublist _ _))
          · have hb := HB1.out
            refine ⟨hgrW.os.trans hb.os, hgrW.tape.trans hb.tape, hgrW.output.trans hb.output, Nat.le_trans hb.size hgrW.size, fun k hk' hne => ?_⟩
            exact (hgrW.block k (Nat.lt_of_lt_of_le hk' hb.size) hne).trans (hb.block k hk')
        have hi2 : ¬ (c0 = i) := by omega
        have hi3 : i ≤ j := by omega
        have hi4 : (i : Int) ≤ (j : Int) := by omega
        have hi5 : i ≤ c0 := by omega
        clear hil hil2 htk hrst hgr hk hall hW hR hZ hgW hgrW hRt hRl hZl hti htz hts htb
        go_wp2_with (refine wpList_clearR rfl (.tmp 38) 27 rfl (.slice (some ⟨g, i * 3, none⟩) (j - i) (c0 - i)) rfl hclr.out ?_)
        go_ret
        exact hfin.out
  · have hne1 : ((-1 : Int) == -1) = true := rfl
    have HF : Hid (DelU w base b (.slice A0 n c0) (nzQ ps) (.returned (.slice A0 n c0)) w1) := by
      refine ⟨_, cells, rfl, ?_, ⟨b1.os, b1.tape, b1.output, b1.size, fun k hk _ => b1.block k hk⟩⟩
      rw [nzQ_all (by rw [HN.out]; exact hall)]
      exact HH.out.below b1
    clear hall b1
    go_wp2
    go_ret
    exact HF.out
end Go.Proofs.Ytbemglmnnehllaa
