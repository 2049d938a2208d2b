/- slices.Insert of one part in the middle: there is room. -/
import Derived.Test.YteodckkkjhapgaaIns
import Derived.Test.YteodckkkjhapgaaDraw
namespace Go.Proofs.Yteodckkkjhapgaa
open Go.RowKit

theorem pair_at {u : Value} {y : Int} {j : Nat} {v : Value} (h : ([u, .int .i64 y] : List Value)[j]? = some v) : (j = 0 ∧ v = u) ∨ (j = 1 ∧ v = .int .i64 y) := by
  match j, h with
  | 0, h => exact .inl ⟨rfl, (Option.some.inj h).symm⟩
  | 1, h => exact .inr ⟨rfl, (Option.some.inj h).symm⟩
  | j + 2, h => simp at h
theorem heap_new_cell (w0 : World) (cs : List Value) (T : TypeId) (j : Nat) {v : Value} (h : cs[j]? = some v) : (w0.alloc (.cells cs.toArray T)).cell? ⟨w0.heap.size, j, none⟩ = some v := by
  have := new_cells w0 cs T j v h
  rwa [addr_off] at this
theorem row_cellAt {w : World} {g : Nat} {cur : List Value} {T : TypeId} (hg : w.heap[g]? = some (.cells cur.toArray T (0, 0))) (j : Nat) : w.cell? ⟨g, j, none⟩ = cur[j]? := by
  simp [World.cell?, hg]
theorem drew_heap (w : World) : w.drew.heap = w.heap := rfl
theorem toArray_splice (cur cs : List Value) (o : Nat) : (cur.toArray.toList.take o ++ cs ++ cur.toArray.toList.drop (o + cs.length)).toArray = (splice cur o cs).toArray := by simp [splice]

set_option maxRecDepth 100000 in
set_option maxHeartbeats 2000000 in
theorem ins_shift {w0 : World} {base b n i : Nat} {A0 : Option Addr} {u : Value} {ps : List (List Int × Int)} {cells : List Value} {l : List Int} {y : Int} (c0 : Nat) (h : OP w0 base b (.slice A0 n c0) ps cells) (hu : OI w0 b u l)
    (hap : ∀ u' ∈ cells, u'.ownBlock = none ∨ u'.ownBlock ≠ u.ownBlock) (hi : i < n) (hroom : n + 1 ≤ c0) (hlen : n ≤ 1000000000000) :
    Calls Try.prog 137 #[.slice A0 n c0, .int .i64 (i : Int), .slice (some ⟨w0.heap.size, 0, none⟩) 1 1] (w0.alloc (.cells #[u, .int .i64 y] 81))
      (InsP (w0.alloc (.cells #[u, .int .i64 y] 81)) base b (.slice A0 n c0) (putAt ps i [(l, y)])) := by
  obtain ⟨g, cur, rfl, hb, hgl, hg0, _, hc63, hcl, hct, hxl, hpl⟩ := OP.row h (by omega)
  obtain ⟨W, hW⟩ : ∃ W, W = w0.alloc (.cells #[u, .int .i64 y] 81) := ⟨_, rfl⟩
  obtain ⟨x, hx⟩ : ∃ x, x = w0.heap.size := ⟨_, rfl⟩
  have hg : W.heap[g]? = some (.cells cur.toArray 81 (0, 0)) := by rw [hW]; exact (Below.heap_alloc w0 _ g hgl).trans hg0
  have hxb : W.heap[x]? = some (.cells #[u, .int .i64 y] 81 (0, 0)) := by rw [hW, hx]; exact heap_alloc_new w0 _
  have hxg : x ≠ g := by omega
  have huo : u.oneCell' = true := OI.one hu
  have hfr : FRs W b (partF ps) cells := by rw [hW]; exact h.2.1.below ((Below.refl _ _).alloc (Nat.le_refl _) _)
  have huW : OI W b u l := by rw [hW]; exact OI.alloc hu _
  have hone := hfr.one
  have hd := h.2.2
  rw [← hW, ← hx]
  have hnews1 : ∀ v ∈ ([u, .int .i64 y] : List Value), v.oneCell' = true := by
    intro v hv
    simp at hv
    rcases hv with rfl | rfl
    · exact huo
    · rfl
  -- the call of overlaps
  have hov : ∀ lb cb, (callFunc 159 #[.slice (some ⟨x, 0, none⟩) 1 1, .slice (some ⟨g, (i + 1) * 2, none⟩) lb cb]).run Try.prog W = .ok (.value (.bool false)) W := fun lb cb => by
    rw [run_callFunc_extern Try.func159 (by kernel_rfl) (by kernel_rfl) (by kernel_rfl) (e := Extern.SlicesOverlaps.overlaps #[51, 51] #[4]) (by kernel_rfl),
      Lib.run_overlaps_apart W 51 4 81 Try.underlying51 2 Try.sizeOf81 ⟨x, 0, none⟩ ⟨g, (i + 1) * 2, none⟩ 1 1 lb cb hxg 81 81 2 (c0 * 2) (by simp [World.shape?, hxb]) (by simp [World.shape?, hg, hcl]) (by omega) (by simp [World.frozen?, hxb]) (by simp [World.frozen?, hxb])]
    rfl
  -- the first copy
  have hcl1 : (cells.drop (i * 2)).length = (n - i) * 2 := by rw [List.length_drop, hxl]; omega
  have hsrc1 : ∀ j v, (cells.drop (i * 2))[j]? = some v → W.drew.cell? ((⟨g, i * 2, none⟩ : Addr).add j) = some v := fun j v hv => by
    rw [addr_at, row_cellAt (w := W.drew) hg]
    have hj := (List.getElem?_eq_some_iff.1 hv).1
    rw [List.getElem?_drop, ← hct, List.getElem?_take, if_pos (by rw [hcl1] at hj; omega)] at hv
    exact hv
  obtain ⟨W1, hW1⟩ : ∃ W1, W1 = W.drew.setRow g (splice cur ((i + 1) * 2) (cells.drop (i * 2))).toArray := ⟨_, rfl⟩
  have hcp1 : ∀ ty, (Builtin.copy_ #[51, 51] ty #[.slice (some ⟨g, (i + 1) * 2, none⟩) (n - i) (c0 - (i + 1)), .slice (some ⟨g, i * 2, none⟩) (n + 1 - i) (c0 - i)]).run Try.prog W.drew = .ok (goInt ((n - i : Nat) : Int)) W1 := fun ty => by
    rw [run_copy_rowK W.drew 51 51 ty 81 g ((i + 1) * 2) (n - i) (c0 - (i + 1)) ⟨g, i * 2, none⟩ (n + 1 - i) (c0 - i) cur.toArray 81 (cells.drop (i * 2)) 2 (n - i) Try.underlying51 Try.sizePart hg (by simp only [Nat.min_def]; split <;> omega) hcl1 hsrc1 (by simp only [List.size_toArray]; omega) (fun v hv => hone v (List.mem_of_mem_drop hv)), toArray_splice, hW1]
  have hg1 : W1.heap[g]? = some (.cells (splice cur ((i + 1) * 2) (cells.drop (i * 2))).toArray 81 (0, 0)) := by rw [hW1]; exact setRow_heap W.drew g _ _ _ _ hg
  have hx1 : W1.heap[x]? = some (.cells #[u, .int .i64 y] 81 (0, 0)) := by rw [hW1, setRow_other _ _ _ _ (by omega)]; exact hxb
  have hl1 : (splice cur ((i + 1) * 2) (cells.drop (i * 2))).length = c0 * 2 := by rw [length_splice _ _ _ (by omega), hcl]
  -- the second copy
  have hsrc2 : ∀ j v, ([u, .int .i64 y] : List Value)[j]? = some v → W1.cell? ((⟨x, 0, none⟩ : Addr).add j) = some v := fun j v hv => by
    rw [addr_at, row_cellAt (cur := [u, .int .i64 y]) hx1, Nat.zero_add]
    exact hv
  obtain ⟨W2, hW2⟩ : ∃ W2, W2 = W1.setRow g (splice (splice cur ((i + 1) * 2) (cells.drop (i * 2))) (i * 2) [u, .int .i64 y]).toArray := ⟨_, rfl⟩
  have hcp2 : ∀ ty, (Builtin.copy_ #[51, 51] ty #[.slice (some ⟨g, i * 2, none⟩) (n + 1 - i) (c0 - i), .slice (some ⟨x, 0, none⟩) 1 1]).run Try.prog W1 = .ok (goInt ((1 : Nat) : Int)) W2 := fun ty => by
    rw [run_copy_rowK W1 51 51 ty 81 g (i * 2) (n + 1 - i) (c0 - i) ⟨x, 0, none⟩ 1 1 _ 81 [u, .int .i64 y] 2 1 Try.underlying51 Try.sizePart hg1 (by simp only [Nat.min_def]; split <;> omega) rfl hsrc2 (by simp only [List.size_toArray, hl1, List.length_cons, List.length_nil]; omega) hnews1, toArray_splice, hW2]
  have hg2 : W2.heap[g]? = some (.cells (splice (splice cur ((i + 1) * 2) (cells.drop (i * 2))) (i * 2) [u, .int .i64 y]).toArray 81 (0, 0)) := by rw [hW2]; exact setRow_heap W1 g _ _ _ _ hg1
  have hgrow : W.grownBy W2 (some g) := by
    rw [hW2, hW1]
    refine ⟨rfl, rfl, rfl, by simp [World.setRow], fun k hk hne => ?_⟩
    have hkg : k ≠ g := fun e => hne (by rw [e])
    rw [setRow_other _ _ _ _ (by omega), setRow_other _ _ _ _ (by omega)]
    rfl
  have hput := row_put cur cells (cells.drop (i * 2)) [u, .int .i64 y] (i * 2) 2 (by rw [hxl]; exact hct) (by rw [hxl, hcl]; simp; omega) (by rw [hxl]; omega) rfl rfl
  rw [show i * 2 + 2 = (i + 1) * 2 by omega, hxl, show n * 2 + 2 = (n + 1) * 2 by omega] at hput
  have hfin : InsP W base b (.slice (some ⟨g, 0, none⟩) n c0) (putAt ps i [(l, y)]) (.returned (.slice (some ⟨g, 0, none⟩) (n + 1) c0)) W2 :=
    ⟨_, _, rfl, OP.of_row hfr hd huW hap hb hg2 hpl hroom hc63 (by rw [hput.2, hcl]) hput.1 (by omega) (fun k hk ⟨cs, m, ht⟩ => hgrow.block k hk fun e => by
      injection e with e
      subst e
      rw [hg] at ht
      injection ht with ht
      injection ht with _ ht
      exact absurd ht (by decide)), hgrow, .inl rfl⟩
  have HF := Lib.hid hfin
  have HC1 := Lib.hid hcp1
  have HC2 := Lib.hid hcp2
  have hw1 : IntKind.i64.wrap ((i : Int) + 1) = (i : Int) + 1 := by rw [IntKind.wrap_i64]; omega
  have hb1 : (0 : Int) ≤ (i : Int) + 1 := by omega
  have hin : i ≤ n := by omega
  have htn : ((i : Int) + 1).toNat = i + 1 := by omega
  have hne : ((i : Int) == (n : Int)) = false := by simp; omega
  have hb2 : ¬ (c0 = i + 1) := by omega
  have hb3 : (i : Int) ≤ (n : Int) + 1 := by omega
  have hb4 : ¬ (c0 = i) := by omega
  have hroom2 : ¬ (c0 : Int) < (n : Int) + 1 := by omega
  clear hW hx hfin hcp1 hcp2 hput hgrow hg2 hW2 hsrc2 hl1 hx1 hg1 hW1 hsrc1 hcl1 hnews1 hone hfr huW hxb hg hg0 hcl hct hxl hpl
  go_enter Try.func137, Try.ntmps137
  go_wp2_with (simp only [hov])
  go_region_law (refine step_copyR rfl (.tmp 73) (.tmp 76) 51 51 rfl (.slice (some ⟨g, (i + 1) * 2, none⟩) (n - i) (c0 - (i + 1))) (.slice (some ⟨g, i * 2, none⟩) (n + 1 - i) (c0 - i)) (by simp [Act.eval, Act.put]) (by simp [Act.eval, Act.put]) HC1.out ?_)
  clear hw1
  go_wp2_with (refine wpList_copyR rfl (.tmp 80) (.tmp 81) 51 51 rfl (.slice (some ⟨g, i * 2, none⟩) (n + 1 - i) (c0 - i)) (.slice (some ⟨x, 0, none⟩) 1 1) rfl rfl HC2.out ?_)
  go_ret
  exact HF.out
end Go.Proofs.Yteodckkkjhapgaa
