/- layer of the program, at every rest and row. -/
import Derived.Test.YtgbojgmmingfdaaLayerRow
import Derived.Lib.AppendZerosOnto
namespace Go.Proofs.Ytgbojgmmingfdaa

theorem layer_any : ∀ (rest : List Nat) (d : Nat), LayerP rest d := by
  intro rest
  induction rest with
  | nil =>
    intro d
    induction d with
    | zero => exact layer_zero [] (fun c rest' e => by cases e)
    | succ d ih => exact layer_row [] d ih
  | cons c rest ihr =>
    intro d
    induction d with
    | zero => exact layer_zero (c :: rest) (fun c' rest' e d => by injection e with _ e2; subst e2; exact ihr d)
    | succ d ih => exact layer_row (c :: rest) d ih
end Go.Proofs.Ytgbojgmmingfdaa

/- append of so many zeros (s = append(s, make([]int, k)...)) onto an owned row of numbers, all ways. -/
namespace Go.Proofs.Ytgbojgmmingfdaa
open Go.RowKit

theorem zero_cells (k : Nat) : Builtin.zeroCells (Value.int .i64 0).cells k = (List.replicate k (Value.int .i64 0)).toArray := by
  have e : (Value.int .i64 0).cells.size = 1 := rfl
  unfold Builtin.zeroCells
  apply Array.ext
  · simp [e]
  · intro i h1 h2
    simp [e, Nat.mod_one]
    rfl
theorem cellsI_zeros (k : Nat) : cellsI (List.replicate k 0) = List.replicate k (Value.int .i64 0) := by simp [cellsI]
theorem run_append_room_zeros {P : Program} (w : World) (t tn ty e : TypeId) (i : TypeInfo) (z : Value) (kq kn : IntKind) (ht : P.underlying t = some (.slice e)) (htn : P.underlying tn = some (.int kn)) (hi : P.info? e = some i) (hz : i.zero = some z)
    (hs : i.size = 1) (hzc : ∀ k, Builtin.zeroCells z.cells k = (List.replicate k (Value.int .i64 0)).toArray) (g sLen sCap k : Nat) (cur : Array Value) (te : TypeId) (hg : w.heap[g]? = some (.cells cur te (0, 0))) (hle : sLen + k ≤ sCap) (hcur : sLen + k ≤ cur.size) (h63 : k ≤ 1000000000) (h48 : k * i.bytes ≤ 281474976710656) :
    (Builtin.append_ #[t, tn] ty #[.slice (some ⟨g, 0, none⟩) sLen sCap, .int kq k]).run P w =
      .ok (.slice (some ⟨g, 0, none⟩) (sLen + k) sCap) (w.setRow g (cur.toList.take sLen ++ List.replicate k (Value.int .i64 0) ++ cur.toList.drop (sLen + k)).toArray) := by
  have hw : IntKind.i64.wrap (k : Int) = k := by rw [IntKind.wrap_i64]; omega
  have h48i : ¬ (281474976710656 < (k : Int) * (i.bytes : Int)) := by
    rw [← Int.natCast_mul]; omega
  have hst := run_storeCells_at P g sLen te (List.replicate k (Value.int .i64 0)) 0 cur w hg (by simpa using hcur) (by intro v hv; obtain rfl := List.eq_of_mem_replicate hv; rfl)
  by_cases hk : k = 0
  · subst hk
    simp at hst
    have hle' : sLen ≤ sCap := by omega
    have hw0 : IntKind.i64.wrap 0 = 0 := by rw [IntKind.wrap_i64]; rfl
    simp [Builtin.append_, run_underlying ht, run_underlying htn, sizeOf, typeInfo, hi, hs, hw0, asInt, asIntOf, hle', storeCells, setRow_self w g cur te (0, 0) hg, Addr.add]
  · have hk0 : ¬ ((k : Int) < 0) := by omega
    simp [Builtin.append_, run_underlying ht, run_underlying htn, sizeOf, typeInfo, hi, hs, hw, asInt, asIntOf, hle, zeroValue, hz, hzc, hk, hk0, h48i, addr_at]
    simp at hst
    rw [hst]
    rfl
set_option maxHeartbeats 1000000 in
theorem appendZ {w : World} {base n c : Nat} {A : Option Addr} {l : List Int} (h : OI w base (.slice A n c) l) (k : Nat) (hk : k ≤ 1000000) (hl : n ≤ 1000000) (hb : base ≤ w.heap.size) :
    ∃ v' w', (∀ ty, (Builtin.append_ #[22, 3] ty #[.slice A n c, .int .i64 k]).run Try.prog w = .ok v' w') ∧ OI w' base v' (l ++ List.replicate k 0) ∧ w.grownBy w' (Value.slice A n c).ownBlock := by
  obtain ⟨i0, hi0, hz0, hs0, hb0⟩ := info_parts Try.infoInt
  have hlen : l.length = n := h.ri.1
  have hll : (l ++ List.replicate k 0).length = n + k := by simp [hlen]
  have grow : ∀ (olds : List Value), cellsI l = olds → (Builtin.firstCells i0.size n (.slice A n c)).run Try.prog w.drew = .ok olds.toArray w.drew → 0 < k → c < n + k →
      ∃ v' w', (∀ ty, (Builtin.append_ #[22, 3] ty #[.slice A n c, .int .i64 k]).run Try.prog w = .ok v' w') ∧ OI w' base v' (l ++ List.replicate k 0) ∧ w.grownBy w' (Value.slice A n c).ownBlock := by
    intro olds he hf hk0 hg
    have hGn : n + k ≤ grownCap w (n + k) c 3 := grownCap_ge _ _ _ _
    have hG63 : grownCap w (n + k) c 3 ≤ maxLen := grownCap_le_maxLen w (n + k) c 3 (by unfold maxLen; omega)
    have hr := fun ty => Lib.run_append_grow_zeros (P := Try.prog) w 22 3 ty 3 i0 _ .i64 .i64 Try.underlying22 Try.underlying3 hi0 hz0 A n c olds hf k hk0 (by omega) hg (by omega) (by rw [hb0]; omega) (by rw [hb0]; exact growslice_fits hg (by omega))
    refine ⟨_, _, hr, ?_, ?_⟩
    · have hl2 : olds.length = n := by rw [← he]; simp [cellsI, hlen]
      refine ⟨by simp [cellsI], .inr ⟨_, _, _, by rw [hll], hb, heap_alloc_new _ _, by rw [hll]; exact hGn, hG63, ?_, ?_⟩⟩
      · rw [zero_cells, zero_cells]
        simp only [Array.size_append, List.size_toArray, List.length_replicate, hl2]
        omega
      · rw [zero_cells, zero_cells]
        have e : (l ++ List.replicate k 0).length * 1 = (olds ++ List.replicate k (Value.int .i64 0)).length := by simp [hl2, hlen]
        simp only [Array.toList_append]
        rw [e, List.take_left]
        rw [← he]
        simp [cellsI]
    · exact ⟨rfl, rfl, rfl, by simp, fun j hj _ => Below.heap_alloc w.drew _ j hj⟩
  rcases h.2 with ⟨he, hn0⟩ | ⟨g, cap, cur, he, hbg, hg, hnc, hcm, hcs, htk⟩
  · obtain ⟨rfl, rfl, rfl⟩ := slice_inj he
    have hl0 : l = [] := List.eq_nil_of_length_eq_zero hlen
    subst hl0
    rcases Nat.eq_zero_or_pos k with hk0 | hk0
    · subst hk0
      refine ⟨.slice none 0 0, w, fun ty => ?_, by simpa using h, World.grownBy.refl _ _⟩
      have hw0 : IntKind.i64.wrap 0 = 0 := by rw [IntKind.wrap_i64]; rfl
      simp [Builtin.append_, run_underlying Try.underlying22, run_underlying Try.underlying3, sizeOf, typeInfo, hi0, hs0, hw0, asInt, asIntOf]
    · exact grow [] rfl (by simp [Builtin.firstCells]) hk0 (by omega)
  · obtain ⟨rfl, e2, e3⟩ := slice_inj he
    subst e3
    rcases Nat.lt_or_ge c (n + k) with h1 | h1
    · refine grow (cellsI l) rfl ?_ (by omega) h1
      have hcell : ∀ j v, (cellsI l)[j]? = some v → w.drew.cell? ((⟨g, 0, none⟩ : Addr).add j) = some v := fun j v hv => by
        rw [addr_at, row_cellAt (show w.drew.heap[g]? = some (.cells cur.toList.toArray 3 (0, 0)) from hg)]
        have hj := (List.getElem?_eq_some_iff.1 hv).1
        rw [← htk, List.getElem?_take] at hv
        split at hv
        · rw [Nat.zero_add]; exact hv
        · cases hv
      have hl := run_loadCells_list (P := Try.prog) w.drew ⟨g, 0, none⟩ (cellsI l) hcell
      have hcl : (cellsI l).length = n := by simp [cellsI, hlen]
      rw [hcl] at hl
      simp [Builtin.firstCells, hs0, hl]
    · refine ⟨_, _, fun ty => run_append_room_zeros (P := Try.prog) w 22 3 ty 3 i0 _ .i64 .i64 Try.underlying22 Try.underlying3 hi0 hz0 hs0 zero_cells g n c k cur 3 hg h1 (by omega) (by omega) (by rw [hb0]; omega), ?_, ?_⟩
      · have hgl : g < w.heap.size := (Array.getElem?_eq_some_iff.1 hg).1
        refine ⟨by simp [cellsI], .inr ⟨g, c, _, by rw [hll], hbg, setRow_heap w g _ _ _ _ hg, by rw [hll]; exact h1, hcm, ?_, ?_⟩⟩
        · simp; omega
        · have e : (l ++ List.replicate k 0).length * 1 = (cur.toList.take n ++ List.replicate k (Value.int .i64 0)).length := by simp; omega
          simp only []
          rw [e, List.take_left]
          have e2 : cur.toList.take n = cellsI l := by rw [← htk, hlen, Nat.mul_one]
          rw [e2]
          simp [cellsI]
      · exact ⟨rfl, rfl, rfl, (by simp [World.setRow] : w.heap.size ≤ (w.setRow g _).heap.size), fun j _ hj => setRow_other _ _ _ _ (fun e => hj (by rw [e]; rfl))⟩
end Go.Proofs.Ytgbojgmmingfdaa
