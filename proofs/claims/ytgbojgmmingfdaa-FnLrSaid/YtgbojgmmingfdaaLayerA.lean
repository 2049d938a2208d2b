/- layer of the program, at every rest and row. -/
import Derived.Test.YtgbojgmmingfdaaLayerRow
import Derived.Lib.AppendZerosOnto
namespace Go.Proofs.Ytgbojgmmingfdaa

theorem layer_any : ∀ (rest : List Nat) (d : Nat), LayerP rest d := by
  intro rest
  induction rest with
  | nil =>
    intro d
    induction d with
    | zero => exact layer_zero [] (fun c rest' e => by cases e)
    | succ d ih => exact layer_row [] d ih
  | cons c rest ihr =>
    intro d
    induction d with
    | zero => exact layer_zero (c :: rest) (fun c' rest' e d => by injection e with _ e2; subst e2; exact ihr d)
    | succ d ih => exact layer_row (c :: rest) d ih
end Go.Proofs.Ytgbojgmmingfdaa

/- append of so many zeros (s = append(s, make([]int, k)...)) onto an owned row of numbers, all ways. -/
namespace Go.Proofs.Ytgbojgmmingfdaa
open Go.RowKit

theorem zero_cells (k : Nat) : Builtin.zeroCells (Value.int .i64 0).cells k = (List.replicate k (Value.int .i64 0)).toArray := by
  have e : (Value.int .i64 0).cells.size = 1 := rfl
  unfold Builtin.zeroCells
  apply Array.ext
  · simp [e]
  · intro i h1 h2
    simp [e, Nat.mod_one]
    rfl
theorem cellsI_zeros (k : Nat) : cellsI (List.replicate k 0) = List.replicate k (Value.int .i64 0) := by simp [cellsI]
theorem run_append_room_zeros {P : Program} (w : World) (t tn ty e : TypeId) (i : TypeInfo) (z : Value) (kq kn : IntKind) (ht : P.underlying t = some (.slice e)) (htn : P.underlying tn = some (.int kn)) (hi : P.info? e = some i) (hz : i.zero = some z)
    (hs : i.size = 1) (hzc : ∀ k, Builtin.zeroCells z.cells k = (List.replicate k (Value.int .i64 0)).toArray) (g sLen sCap k : Nat) (cur : Array Value) (te : TypeId) (hg : w.heap[g]? = some (.cells cur te (0, 0))) (hle : sLen + k ≤ sCap) (hcur : sLen + k ≤ cur.size) (h63 : k ≤ 1000000000) (h48 : k * i.bytes ≤ 281474976710656) :
    (Builtin.append_ #[t, tn] ty #[.slice (some ⟨g, 0, none⟩) sLen sCap, .int kq k]).run P w =
      .ok (.slice (some ⟨g, 0, none⟩) (sLen + k) sCap) (w.setRow g (cur.toList.take sLen ++ List.replicate k (Value.int .i64 0) ++ cur.toList.drop (sLen + k)).toArray) := by
  have hw : IntKind.i64.wrap (k : Int) = k := by rw [IntKind.wrap_i64]; omega
  have h48i : ¬ (281474976710656 < (k : Int) * (i.bytes : Int)) := by
    rw [← Int.natCast_mul]; omega
  have hst := run_storeCells_at P g sLen te (List.replicate k (Value.int .i64 0)) 0 cur w hg (by simpa using hcur) (by intro v hv; obtain rfl := List.eq_of_mem_replicate hv; rfl)
  by_cases hk : k = 0
  · subst hk
    simp at hst
    have hle' : sLen ≤ sCap := by omega
    have hw0 : IntKind.i64.wrap 0 = 0 := by rw [IntKind.wrap_i64]; rfl
    simp [Builtin.append_, run_underlying ht, run_underlying htn, sizeOf, typeInfo, hi, hs, hw0, asInt, asIntOf, hle', storeCells, setRow_self w g cur te (0, 0) hg, Addr.add]
  · have hk0 : ¬ ((k : Int) < 0) := by omega
    simp [Builtin.append_, run_underlying ht, run_underlying htn, sizeOf, typeInfo, hi, hs, hw, asInt, asIntOf, hle, zeroValue, hz, hzc, hk, hk0, h48i, addr_at]
    simp at hst
    rw [hst]
    rfl
set_option maxHeartbeats 1000000 in
theorem appendZ {w : World} {base n c : Nat} {A : Option Addr} {l : List Int} (h : OI w base (.slice A n c) l) (k : Nat) (hk : k ≤ 1000000) (hl : n ≤ 1000000) (hb : base ≤ w.heap.size) :
    ∃ v' w', (∀ ty, (Builtin.append_ #[22, 3] ty #[.slice A n c, .int .i64 k]).run Try.prog w = .ok v' w') ∧ OI w' base v' (l ++ List.replicate k 0) ∧ w.grownBy w' (Value.slice A n c).ownBlock := by
  obtain ⟨i0, hi0, hz0, hs0, hb0⟩ := info_parts Try.infoInt
  have hlen : l.length = n := h.ri.1
  have hll : (l ++ List.replicate k 0).length = n + k := by simp [hlen]
  have grow : ∀ (olds : List Value), cellsI l = olds → (Builtin.firstCells i0.size n (.slice A n c)).run Try.prog w.drew = .ok olds.toArray w.drew → 0 < k → c < n + k →
      ∃ v' w', (∀ ty, (Builtin.append_ #[22, 3] ty #[.slice A n c, .int .i64 k]).run Try.prog w = .ok v' w') ∧ OI w' base v' (l ++ List.replicate k 0) ∧ w.grownBy w' (Value.slice A n c).ownBlock := by
    intro olds he hf hk0 hg
    have hGn : n + k ≤ grownCap w (n + k) c 3 := grownCap_ge _ _ _ _
    have hG63 : grownCap w (n + k) c 3 ≤ maxLen := grownCap_le_maxLen w (n + k) c 3 (by unfold maxLen; omega)
    have hr := fun ty => Lib.run_append_grow_zeros (P := Try.prog) w 22 3 ty 3 i0 _ .i64 .i64 Try.underlying22 Try.underlying3 hi0 hz0 A n c olds hf k hk0 (by omega) hg (by omega) (by rw [hb0]; omega) (by rw [hb0]; exact growslice_fits hg (by omega))
    refine ⟨_, _, hr, ?_, ?_⟩
    · have hl2 : olds.length = n := by rw [← he]; simp [cellsI, hlen]
      refine ⟨by simp [cellsI], .inr ⟨_, _, _, by rw [hll], hb, heap_alloc_new _ _, by rw [hll]; exact hGn, hG63, ?_, ?_⟩⟩
      · rw [zero_cells, zero_cells]
        simp only [Array.size_append, List.size_toArray, List.length_replicate, hl2]
        omega
      · rw [zero_cells, zero_cells]
        have e : (l ++ List.replicate k 0).length * 1 = (olds ++ List.replicate k (Value.int .i64 0)).length := by simp [hl2, hlen]
        simp only [Array.toList_append]
        rw [e, List.take_left]
        rw [← he]
        simp [cellsI]
    · exact ⟨rfl, rfl, rfl, by simp, fun j hj _ => Below.heap_alloc w.drew _ j hj⟩
  rcases h.2 with ⟨he, hn0⟩ | ⟨g, cap, cur, he, hbg, hg, hnc, hcm, hcs, htk⟩
  · obtain ⟨rfl, rfl, rfl⟩ := slice_inj he
    have hl0 : l = [] := List.eq_nil_of_length_eq_zero hlen
    subst hl0
    rcases Nat.eq_zero_or_pos k with hk0 | hk0
    · subst hk0
      refine ⟨.slice none 0 0, w, fun ty => ?_, by simpa using h, World.grownBy.refl _ _⟩
      have hw0 : IntKind.i64.wrap 0 = 0 := by rw [IntKind.wrap_i64]; rfl
      simp [Builtin.append_, run_underlying Try.underlying22, run_underlying Try.underlying3, sizeOf, typeInfo, hi0, hs0, hw0, asInt, asIntOf]
    · exact grow [] rfl (by simp [Builtin.firstCells]) hk0 (by omega)
  · obtain ⟨rfl, e2, e3⟩ := slice_inj he
    subst e3
    rcases Nat.lt_or_ge c (n + k) with h1 | h1
    · refine grow (cellsI l) rfl ?_ (by omega) h1
      have hcell : ∀ j v, (cellsI l)[j]? = some v → w.drew.cell? ((⟨g, 0, none⟩ : Addr).add j) = some v := fun j v hv => by
        rw [addr_at, row_cellAt (show w.drew.heap[g]? = some (.cells cur.toList.toArray 3 (0, 0)) from hg)]
        have hj := (List.getElem?_eq_some_iff.1 hv).1
        rw [← htk, List.getElem?_take] at hv
        split at hv
        · rw [Nat.zero_add]; exact hv
        · cases hv
      have hl := run_loadCells_list (P := Try.prog) w.drew ⟨g, 0, none⟩ (cellsI l) hcell
      have hcl : (cellsI l).length = n := by simp [cellsI, hlen]
      rw [hcl] at hl
      simp [Builtin.firstCells, hs0, hl]
    · refine ⟨_, _, fun ty => run_append_room_zeros (P := Try.prog) w 22 3 ty 3 i0 _ .i64 .i64 Try.underlying22 Try.underlying3 hi0 hz0 hs0 zero_cells g n c k cur 3 hg h1 (by omega) (by omega) (by rw [hb0]; omega), ?_, ?_⟩
      · have hgl : g < w.heap.size := (Array.getElem?_eq_some_iff.1 hg).1
        refine ⟨by simp [cellsI], .inr ⟨g, c, _, by rw [hll], hbg, setRow_heap w g _ _ _ _ hg, by rw [hll]; exact h1, hcm, ?_, ?_⟩⟩
        · simp; omega
        · have e : (l ++ List.replicate k 0).length * 1 = (cur.toList.take n ++ List.replicate k (Value.int .i64 0)).length := by simp; omega
          simp only []
          rw [e, List.take_left]
          have e2 : cur.toList.take n = cellsI l := by rw [← htk, hlen, Nat.mul_one]
          rw [e2]
          simp [cellsI]
      · exact ⟨rfl, rfl, rfl, (by simp [World.setRow] : w.heap.size ≤ (w.setRow g _).heap.size), fun j _ hj => setRow_other _ _ _ _ (fun e => hj (by rw [e]; rfl))⟩
end Go.Proofs.Ytgbojgmmingfdaa

/- fillings of the program. -/
namespace Go.Proofs.Ytgbojgmmingfdaa
open Go.RowKit

theorem padL_eq {a : List Int} {rows : Nat} : padL a rows = a ++ List.replicate (rows - a.length) 0 := rfl

set_option maxRecDepth 100000 in
set_option maxHeartbeats 2000000 in
theorem fillings_any {Aa Ab : Option Addr} {na nb rows : Nat} {most : Int} {a : List Int} {bs : List Nat} {w : World} (ca cb : Nat) (ha : RI w Aa na a) (hb : RT w Ab nb (fI bs)) (hcb : nb ≤ cb) (hcb63 : cb ≤ 9223372036854775807)
    (hr : rows ≤ 16) (hna : na ≤ rows) (hm : 0 ≤ most ∧ most ≤ 1000) (hba : Bd a 1000) (hcs : ∀ c ∈ bs, c ≤ 1000) (hlen : (layerC rows most (fI bs) (padL a rows) none).length ≤ 100000000000) :
    Calls Try.prog 122 #[.slice Aa na ca, .slice Ab nb cb, .int .i64 (rows : Int), .int .i64 most] w (MakesP w (fillB a (fI bs) rows most)) := by
  have HLA := Lib.hid ha.1
  have HLB := Lib.hid hb.ri.1
  have HB := Lib.hid hb
  have HN := Lib.hid hlen
  have HBA := Lib.hid hba
  have HCS := Lib.hid hcs
  clear hb hlen hba hcs
  go_enter Try.func122, Try.ntmps122
  go_wp2_with fail
  refine (clone_any _ ha (by omega)).mono ?_
  rintro e w1 ⟨A1, n1, c1, rfl, o1, r1, ⟨cp1, le1⟩, b1⟩
  obtain rfl : na = n1 := by rw [← r1.1]; exact HLA.out.symm
  obtain ⟨K, hK⟩ : ∃ K, K = rows - na := ⟨_, rfl⟩
  obtain ⟨v2, w2, hz, o2, gr2⟩ := appendZ o1 K (by omega) (by omega) b1.size
  have hw1 : IntKind.i64.wrap ((rows : Int) - (na : Int)) = (K : Int) := by rw [show (rows : Int) - (na : Int) = (K : Int) by omega]; exact IntWalk.i64_in _ (by omega)
  have hb2 : Below w.heap.size w w2 := b1.grown gr2 (by first | exact b1.size | exact Nat.le_refl _) (fun k hk => (o1.lt k hk).1)
  rw [show a ++ List.replicate K 0 = padL a rows by rw [padL_eq, HLA.out, hK]] at o2
  have HK := Lib.hid hK
  clear o1 r1 b1 gr2 hK
  obtain ⟨A2, n2, c2, rfl, _, hn2, hc2, _⟩ := o2.form
  obtain rfl : rows = n2 := by rw [← o2.ri.1]; exact (padL_len (by rw [HLA.out]; exact hna)).symm
  obtain ⟨W, hW⟩ : ∃ W, W = (w2.alloc (.cells #[] 47)).alloc (.cells #[.slice (some ⟨w2.heap.size, 0, none⟩) 0 0] 32) := ⟨_, rfl⟩
  have hWs : W.heap.size = w2.heap.size + 2 := by rw [hW]; simp
  have hBW2 : Below w2.heap.size w2 W := by rw [hW]; exact ((Below.refl _ _).alloc (Nat.le_refl _) _).alloc (by simp) _
  have hBW : Below w.heap.size w W := hb2.trans (hBW2.mono hb2.size)
  have hVO : VO W (w2.heap.size + 1) w.heap.size w.heap.size (.slice (some ⟨w2.heap.size, 0, none⟩) 0 0) [] [] := by
    rw [hW]
    refine ⟨?_, OP.below (OP.lit w2 _ _ hb2.size) ((Below.refl _ _).alloc (Nat.le_refl _) _)⟩
    have := BK.new (w2.alloc (.cells #[] 47)) 32 [.slice (some ⟨w2.heap.size, 0, none⟩) 0 0]
    simpa using this
  have hRT : RT W A2 rows (padL a rows) := RT.of_OI (OI.below o2 hBW2)
  have HFIN : Hid (∀ v' cells' ps' w', VO w' (w2.heap.size + 1) w.heap.size w.heap.size v' ps' cells' → Turn (w2.heap.size + 1) (.slice (some ⟨w2.heap.size, 0, none⟩) 0 0) W w' → w'.cell? ⟨w2.heap.size + 1, 0, none⟩ = some v' ∧ MakesP w ps' (.returned v') w') := fun v' cells' ps' w' h1 h2 =>
    ⟨h1.cel.cell (j := 0) rfl, MakesP.of h1.own (hBW.trans (h2.below (by have := hb2.size; omega) hVO.own (Nat.le_refl _) hBW.size))⟩
  have HVO := Lib.hid hVO
  have HRT := Lib.hid hRT
  have HW := Lib.hid hW
  have HWS := Lib.hid hWs
  have HBW := Lib.hid hBW
  have hPL : Bd (padL a rows) 1000 := fun j => by rw [nth_padL]; exact HBA.out j
  have HPL := Lib.hid hPL
  clear hVO hRT hW hBW hBW2 hWs hPL o2 hb2 ha
  cases bs with
  | nil =>
    obtain rfl : nb = 0 := HLB.out.symm
    go_wp2_with (at_builtin; refine Lib.wpList_append_run _ rfl _ _ _ _ rfl _ _ rfl rfl _ _ (hz _) ?_)
    rw [← HW.out]
    refine (see_any c2 HRT.out.ri hn2 (by omega) HVO.out grows_nil (by omega) (by intro k hk; simp at hk) HBW.out.size HBW.out.size).mono ?_
    rintro e w3 ⟨v3, cells3, rfl, ho3, t3, f3⟩
    obtain ⟨hc3, hm3⟩ := HFIN.out _ _ _ _ ho3 t3
    have HM := Lib.hid hm3
    clear hm3 ho3 t3 f3
    go_wp2
    go_ret
    exact HM.out
  | cons c rest =>
    obtain rfl : nb = rest.length + 1 := by rw [← HLB.out]; simp
    have hr9 : rows ≤ 1000000000 := by omega
    obtain ⟨ad, hA, hc0⟩ := (HB.out.below HBW.out).ri.cell (k := 0) (by omega)
    subst hA
    rw [show nth (fI (c :: rest)) 0 = (c : Int) from rfl] at hc0
    rw [add_zero_] at hc0
    obtain ⟨G, hG⟩ : ∃ G, G = w2.heap.size := ⟨_, rfl⟩
    have HGG := Lib.hid hG
    have HC1 := Lib.hid hc0
    have HCF : Hid (∀ W', Turn (w2.heap.size + 1) (.slice (some ⟨w2.heap.size, 0, none⟩) 0 0) W W' → W'.cell? ad = some (.int .i64 (c : Int))) := fun W' tW => by
      obtain ⟨ad2, e2, hc2⟩ := ((HB.out.below HBW.out).turn HVO.out tW).ri.cell (k := 0) (by omega)
      obtain rfl := Option.some.inj e2
      rw [add_zero_] at hc2
      exact hc2
    have HDA : Hid (∀ o, (W.alloc o).drew.cell? ad = some (.int .i64 (c : Int))) := fun o => by
      have h1 : (W.alloc o).cell? ad = some (.int .i64 (c : Int)) := one_cell ((Below.refl _ _).alloc (Nat.le_refl _) _) hc0
      exact h1
    have hq1 : (0 : Int) ≤ (rest.length : Int) + 1 := by omega
    have hq2 : (0 : Int) < (rest.length : Int) + 1 := by omega
    have hq3 : 0 < rest.length + 1 := by omega
    have HCL : Hid (∀ X : World, RI X A2 rows (padL a rows) → Calls Try.prog 134 #[.slice A2 rows c2] X (Makes X (padL a rows))) := fun X h => clone_any _ h hr9
    have rs1 : RI W A2 rows (padL a rows) := HRT.out.ri
    have HLSH : Hid ((padL a rows).length = rows) := padL_len (by rw [HLA.out]; exact hna)
    have hlay : Lay rows rows most (padL a rows) (padL a rows) (List.replicate rows 0) c rest := ⟨hr, hm, Nat.le_refl _, HLSH.out, HLSH.out, by simp, HPL.out, HPL.out, Bd.zeros _ (by omega), fun _ _ => rfl, HCS.out c List.mem_cons_self, fun x hx => HCS.out x (List.mem_cons_of_mem _ hx)⟩
    have HCALL : Hid (∀ (X : World) (AC : Option Addr) (cC : Nat) (Ag : Option Addr), Below W.heap.size W X → RT X AC rows (padL a rows) → RT X Ag rows (List.replicate rows 0) →
        Calls Try.prog 179 #[.slice A2 rows c2, .slice (some ad) (rest.length + 1) cb, .slice AC rows cC, .int .i64 0, .int .i64 (c : Int), .slice none 0 0, .slice Ag rows rows, .int .i64 most, .func (.func 176) #[] #[.pointer (some ⟨w2.heap.size + 1, 0, none⟩)]] X
          (Sees W (w2.heap.size + 1) w.heap.size w.heap.size (.slice (some ⟨w2.heap.size, 0, none⟩) 0 0) (fillB a (fI (c :: rest)) rows most))) := fun X AC cC Ag bX h1 h2 => by
      have := layer_any rest rows X (w2.heap.size + 1) w.heap.size w.heap.size rows most A2 (some ad) AC Ag c2 cb cC rows (c : Int) (padL a rows) (padL a rows) (List.replicate rows 0) c (.slice none 0 0) (.slice (some ⟨w2.heap.size, 0, none⟩) 0 0) none [] [] 0 0 (c : Int) 0
        (HRT.out.below bX) hn2 ((HB.out.below HBW.out).below bX) hcb hcb63 h1 h2 (Nat.le_refl _) rfl (HVO.out.below bX) hlay (by simp) rfl Okp.nil_ (by have := HN.out; rw [show fI (c :: rest) = (c : Int) :: fI rest from rfl, layerC_cons] at this; omega)
        (Nat.le_trans HBW.out.size bX.size) (Nat.le_trans HBW.out.size bX.size)
      exact this.mono fun e w' hh => Sees.from_ bX (by unfold fillB; rw [show fI (c :: rest) = (c : Int) :: fI rest from rfl, layerC_cons]; exact hh)
    have hmk := run_make_row' (P := Try.prog) 22 3 (.int .i64 0) 8 Try.underlying22 Try.infoInt rfl .i64 .i64 rows (by omega) (by omega)
    clear hlay hG
    go_wp2_with (at_builtin; refine Lib.wpList_append_run _ rfl _ _ _ _ rfl _ _ rfl rfl _ _ (hz _) ?_)
    rw [← HW.out]
    clear hz
    go_region_held3 (fun w' => w'.cell? ad = some (.int .i64 (c : Int))) (first | exact hc0 | exact HCF.out _ ht' | exact HDA.out _ | exact one_cell bM HC1.out | exact one_cell bC HC1.out | exact one_cell (bC.alloc bC.size _) HC1.out | exact one_cell ((Below.refl _ _).alloc (Nat.le_refl _) _) HC1.out) (first
      | (go_at_call 134; (with_reducible refine (HCL.out _ ?_).mono ?_); (first | exact rs1 | exact rs1.alloc _); rintro e wC ⟨AC, nC, cC, rfl, oC, rC, ⟨cpC, leC⟩, bC'⟩; have bC : Below W.heap.size W wC := (by first | exact ⟨bC'.os, bC'.tape, bC'.output, bC'.size, bC'.block⟩ | exact ((Below.refl W.heap.size W).alloc (Nat.le_refl _) _).trans ((show Below (W.alloc _).heap.size (W.alloc _) wC from ⟨bC'.os, bC'.tape, bC'.output, bC'.size, bC'.block⟩).mono (by simp))); obtain rfl : rows = nC := HLSH.out.symm.trans rC.1)
      | (go_at_call 179; (with_reducible refine (HCALL.out _ _ _ _ ?_ ?_ ?_).mono ?_); (first | exact bC.alloc bC.size _ | exact bC); (first | exact RT.of_OI (OI.alloc oC _) | exact RT.of_OI oC); (first | exact RT.of_OI (made_OI wC rows hr9) | exact RT.of_OI (OI.below (made_OI W rows hr9) (show Below (W.alloc _).heap.size (W.alloc _) wC from ⟨bC'.os, bC'.tape, bC'.output, bC'.size, bC'.block⟩))); rintro e wF ⟨v', cells', rfl, hv', ht', hf'⟩))
    all_goals obtain ⟨hc3, hm3⟩ := HFIN.out _ _ _ _ hv' ht'
    all_goals have HM := Lib.hid hm3
    all_goals clear hm3 hv' ht' hf'
    all_goals go_wp2
    all_goals go_ret
    all_goals exact HM.out
end Go.Proofs.Ytgbojgmmingfdaa
