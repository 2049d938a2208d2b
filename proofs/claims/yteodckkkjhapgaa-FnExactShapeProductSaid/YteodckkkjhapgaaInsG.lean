/- slices.Insert of one part in the middle, no room; slices.Insert of one part, whatever the place. -/
import Derived.Test.YteodckkkjhapgaaInsM
namespace Go.Proofs.Yteodckkkjhapgaa
open Go.RowKit

theorem row_put2 {α : Type} (cur xs news : List α) (i s : Nat) (hxs : cur.take i = xs.take i) (hl : xs.length + news.length ≤ cur.length) (hi : i ≤ xs.length) (hs : s = news.length) :
    (splice (splice cur i news) (i + s) (xs.drop i)).take (xs.length + s) = putAt xs i news ∧ (splice (splice cur i news) (i + s) (xs.drop i)).length = cur.length := by
  subst hs
  have hlen : (xs.drop i).length = xs.length - i := List.length_drop ..
  have l1 : (splice cur i news).length = cur.length := length_splice _ _ _ (by omega)
  refine ⟨?_, by rw [length_splice _ _ _ (by omega), l1]⟩
  have e1 : (splice cur i news).take (i + news.length) = xs.take i ++ news := by
    unfold splice
    rw [← List.append_assoc, List.take_append_of_le_length (by simp; omega), List.take_of_length_le (by simp; omega), hxs]
  rw [show splice (splice cur i news) (i + news.length) (xs.drop i) = (splice cur i news).take (i + news.length) ++ (xs.drop i ++ (splice cur i news).drop (i + news.length + (xs.drop i).length)) from rfl, e1, putAt]
  have h4 : (xs.take i ++ news ++ xs.drop i).length = xs.length + news.length := by simp; omega
  rw [← List.append_assoc, ← h4, List.take_left]

set_option maxRecDepth 100000 in
set_option maxHeartbeats 2000000 in
theorem ins_grow {w0 : World} {base b n i : Nat} {A0 : Option Addr} {u : Value} {ps : List (List Int × Int)} {cells : List Value} {l : List Int} {y : Int} (c0 : Nat) (h : OP w0 base b (.slice A0 n c0) ps cells) (hu : OI w0 b u l)
    (hap : ∀ u' ∈ cells, u'.ownBlock = none ∨ u'.ownBlock ≠ u.ownBlock) (hi : i < n) (hroom : c0 < n + 1) (hlen : n ≤ 1000000000000) (hbase : base ≤ w0.heap.size) :
    Calls Try.prog 137 #[.slice A0 n c0, .int .i64 (i : Int), .slice (some ⟨w0.heap.size, 0, none⟩) 1 1] (w0.alloc (.cells #[u, .int .i64 y] 81))
      (InsP (w0.alloc (.cells #[u, .int .i64 y] 81)) base b (.slice A0 n c0) (putAt ps i [(l, y)])) := by
  obtain ⟨g, cur, rfl, hb, hgl, hg0, hnc, hc63, hcl, hct, hxl, hpl⟩ := OP.row h (by omega)
  obtain ⟨W, hW⟩ : ∃ W, W = w0.alloc (.cells #[u, .int .i64 y] 81) := ⟨_, rfl⟩
  obtain ⟨x, hx⟩ : ∃ x, x = w0.heap.size := ⟨_, rfl⟩
  obtain ⟨N, hN⟩ : ∃ N, N = W.heap.size := ⟨_, rfl⟩
  have hNx : N = x + 1 := by rw [hN, hW, hx]; simp
  have hg : W.heap[g]? = some (.cells cur.toArray 81 (0, 0)) := by rw [hW]; exact (Below.heap_alloc w0 _ g hgl).trans hg0
  have hxb : W.heap[x]? = some (.cells #[u, .int .i64 y] 81 (0, 0)) := by rw [hW, hx]; exact heap_alloc_new w0 _
  have huo : u.oneCell' = true := OI.one hu
  have hfr : FRs W b (partF ps) cells := by rw [hW]; exact h.2.1.below ((Below.refl _ _).alloc (Nat.le_refl _) _)
  have huW : OI W b u l := by rw [hW]; exact OI.alloc hu _
  have hone := hfr.one
  have hd := h.2.2
  rw [← hW, ← hx]
  have hnews1 : ∀ v ∈ ([u, .int .i64 y] : List Value), v.oneCell' = true := by
    intro v hv
    simp at hv
    rcases hv with rfl | rfl
    · exact huo
    · rfl
  have hcellg : ∀ (W' : World), W'.heap[g]? = some (.cells cur.toArray 81 (0, 0)) → ∀ o j v, cells[o + j]? = some v → W'.cell? ((⟨g, o, none⟩ : Addr).add j) = some v := fun W' hW' o j v hv => by
    rw [addr_at, row_cellAt hW']
    have hj := (List.getElem?_eq_some_iff.1 hv).1
    rw [← hct, List.getElem?_take, if_pos (by omega)] at hv
    exact hv
  -- the new row
  obtain ⟨i0, hi0, hz0, hzs, hzb⟩ := info_parts Try.infoPart
  have hold : (Builtin.firstCells i0.size i (.slice (some ⟨g, 0, none⟩) i c0)).run Try.prog W.drew = .ok (cells.take (i * 2)).toArray W.drew := by
    rw [hzs]
    refine run_firstCells_some W.drew 2 i ⟨g, 0, none⟩ i c0 (cells.take (i * 2)) (by rw [List.length_take]; omega) fun j v hj => ?_
    rw [List.getElem?_take] at hj
    split at hj
    · exact hcellg W.drew hg 0 j v (by rw [Nat.zero_add]; exact hj)
    · cases hj
  obtain ⟨G, hG⟩ : ∃ G, G = grownCap W (n + 1) c0 81 := ⟨_, rfl⟩
  have hGn : n + 1 ≤ G := by rw [hG]; exact grownCap_ge W _ _ _
  have hG63 : G ≤ 9223372036854775807 := by
    have := grownCap_le_maxLen W (n + 1) c0 81 (by unfold maxLen; omega)
    rw [← hG] at this
    unfold maxLen at this
    omega
  have hik : i + (n + 1 - i) = n + 1 := by omega
  obtain ⟨ROW, hROW⟩ : ∃ ROW : Array Value, ROW = (cells.take (i * 2)).toArray ++ Builtin.zeroCells (Value.agg #[.slice none 0 0, .int .i64 0]).cells (n + 1 - i) ++ Builtin.zeroCells (Value.agg #[.slice none 0 0, .int .i64 0]).cells (G - (n + 1)) := ⟨_, rfl⟩
  have hRl : ROW.size = G * 2 := by
    rw [hROW]
    have e : (Value.agg #[.slice none 0 0, .int .i64 0]).cells.size = 2 := rfl
    simp only [Array.size_append, List.size_toArray, List.length_take, Builtin.zeroCells, Array.size_map, Array.size_range, e, hxl]
    omega
  have hRt : ROW.toList.take (i * 2) = cells.take (i * 2) := by
    have hl : (cells.take (i * 2)).length = i * 2 := by rw [List.length_take]; omega
    rw [hROW]
    simp only [Array.toList_append, List.append_assoc]
    rw [List.take_append_of_le_length (by rw [hl]; exact Nat.le_refl _), List.take_of_length_le (by rw [hl]; exact Nat.le_refl _)]
  obtain ⟨W1, hW1⟩ : ∃ W1, W1 = W.drew.alloc (.cells ROW 81) := ⟨_, rfl⟩
  have hrz : ∀ ty, (Builtin.append_ #[51, 3] ty #[.slice (some ⟨g, 0, none⟩) i c0, .int .i64 ((n : Int) + 1 - (i : Int))]).run Try.prog W = .ok (.slice (some ⟨N, 0, none⟩) (n + 1) G) W1 := fun ty => by
    have hh := Lib.run_append_grow_zeros W 51 3 ty 81 i0 _ .i64 .i64 Try.underlying51 Try.underlying3 hi0 hz0 (some ⟨g, 0, none⟩) i c0 (cells.take (i * 2)) hold (n + 1 - i) (by omega) (by omega) (by omega) (by omega) (by rw [hzb]; omega) (by rw [hzb, hik]; exact growslice_fits hroom (by omega))
    rw [hik, ← hG, ← hROW, ← hN, ← hW1] at hh
    rw [show (n : Int) + 1 - (i : Int) = ((n + 1 - i : Nat) : Int) by omega]
    exact hh
  have hgW : g < W.heap.size := by rw [hW]; simp; omega
  have hxW : x < W.heap.size := by omega
  have hgN1 : W1.heap[g]? = some (.cells cur.toArray 81 (0, 0)) := by rw [hW1]; exact (Below.heap_alloc W.drew _ g hgW).trans hg
  have hxN1 : W1.heap[x]? = some (.cells #[u, .int .i64 y] 81 (0, 0)) := by rw [hW1]; exact (Below.heap_alloc W.drew _ x hxW).trans hxb
  have hN1 : W1.heap[N]? = some (.cells ROW.toList.toArray 81 (0, 0)) := by rw [hW1, hN]; exact heap_alloc_new W.drew _
  -- the copy of the part
  obtain ⟨R1, hR1⟩ : ∃ R1, R1 = splice ROW.toList (i * 2) [u, .int .i64 y] := ⟨_, rfl⟩
  obtain ⟨W2, hW2⟩ : ∃ W2, W2 = W1.setRow N R1.toArray := ⟨_, rfl⟩
  have hR1l : R1.length = G * 2 := by rw [hR1, length_splice _ _ _ (by simp; omega)]; simpa using hRl
  have hcpA : ∀ ty, (Builtin.copy_ #[51, 51] ty #[.slice (some ⟨N, i * 2, none⟩) (n + 1 - i) (G - i), .slice (some ⟨x, 0, none⟩) 1 1]).run Try.prog W1 = .ok (goInt ((1 : Nat) : Int)) W2 := fun ty => by
    rw [run_copy_rowK W1 51 51 ty 81 N (i * 2) (n + 1 - i) (G - i) ⟨x, 0, none⟩ 1 1 _ 81 [u, .int .i64 y] 2 1 Try.underlying51 Try.sizePart hN1 (by simp only [Nat.min_def]; split <;> omega) rfl (fun j v hv => by rw [addr_at, row_cellAt (cur := [u, .int .i64 y]) hxN1, Nat.zero_add]; exact hv)
      (by simp only [List.size_toArray, List.length_cons, List.length_nil, Array.length_toList]; omega) hnews1, toArray_splice, hW2, hR1]
  have hN2 : W2.heap[N]? = some (.cells R1.toArray 81 (0, 0)) := by rw [hW2]; exact setRow_heap W1 N _ _ _ _ hN1
  have hgN2 : W2.heap[g]? = some (.cells cur.toArray 81 (0, 0)) := by rw [hW2, setRow_other _ _ _ _ (by omega)]; exact hgN1
  -- the copy of what lies behind
  have hcl1 : (cells.drop (i * 2)).length = (n - i) * 2 := by rw [List.length_drop, hxl]; omega
  obtain ⟨R2, hR2⟩ : ∃ R2, R2 = splice R1 ((i + 1) * 2) (cells.drop (i * 2)) := ⟨_, rfl⟩
  obtain ⟨W3, hW3⟩ : ∃ W3, W3 = W2.drew.setRow N R2.toArray := ⟨_, rfl⟩
  have hcpB : ∀ ty, (Builtin.copy_ #[51, 51] ty #[.slice (some ⟨N, (i + 1) * 2, none⟩) (n - i) (G - (i + 1)), .slice (some ⟨g, i * 2, none⟩) (n - i) (c0 - i)]).run Try.prog W2.drew = .ok (goInt ((n - i : Nat) : Int)) W3 := fun ty => by
    rw [run_copy_rowK W2.drew 51 51 ty 81 N ((i + 1) * 2) (n - i) (G - (i + 1)) ⟨g, i * 2, none⟩ (n - i) (c0 - i) _ 81 (cells.drop (i * 2)) 2 (n - i) Try.underlying51 Try.sizePart hN2 (by simp only [Nat.min_def]; split <;> omega) hcl1 (fun j v hv => by
        rw [List.getElem?_drop] at hv
        exact hcellg W2.drew hgN2 (i * 2) j v hv)
      (by simp only [List.size_toArray]; omega) (fun v hv => hone v (List.mem_of_mem_drop hv)), toArray_splice, hW3, hR2]
  have hN3 : W3.heap[N]? = some (.cells R2.toArray 81 (0, 0)) := by rw [hW3]; exact setRow_heap W2.drew N _ _ _ _ hN2
  have hput := row_put2 ROW.toList cells [u, .int .i64 y] (i * 2) 2 hRt (by simp only [Array.length_toList, List.length_cons, List.length_nil]; omega) (by omega) rfl
  rw [← hR1, show i * 2 + 2 = (i + 1) * 2 by omega, ← hR2, hxl, show n * 2 + 2 = (n + 1) * 2 by omega] at hput
  have hsame : ∀ k, k < W.heap.size → W3.heap[k]? = W.heap[k]? := fun k hk => by
    rw [hW3, setRow_other _ _ _ _ (by omega)]
    show W2.heap[k]? = _
    rw [hW2, setRow_other _ _ _ _ (by omega), hW1]
    exact Below.heap_alloc W.drew _ k hk
  have hgrow : W.grownBy W3 (some g) := by
    refine ⟨?_, ?_, ?_, ?_, fun k hk _ => hsame k hk⟩
    · rw [hW3, hW2, hW1]; rfl
    · rw [hW3, hW2, hW1]; rfl
    · rw [hW3, hW2, hW1]; rfl
    · rw [hW3, hW2, hW1]; simp [World.setRow]
  have hfin : InsP W base b (.slice (some ⟨g, 0, none⟩) n c0) (putAt ps i [(l, y)]) (.returned (.slice (some ⟨N, 0, none⟩) (n + 1) G)) W3 :=
    ⟨_, _, rfl, OP.of_row hfr hd huW hap (by omega) hN3 hpl hGn hG63 (by rw [hput.2]; simpa using hRl) hput.1 (by omega) (fun k hk _ => hsame k hk), hgrow, .inr fun k hk => by have hk2 : N = k := Option.some.inj hk; omega⟩
  have HF := Lib.hid hfin
  have HZ := Lib.hid hrz
  have HA := Lib.hid hcpA
  have HB := Lib.hid hcpB
  have hw1 : IntKind.i64.wrap ((i : Int) + 1) = (i : Int) + 1 := by rw [IntKind.wrap_i64]; omega
  have hb1 : (0 : Int) ≤ (i : Int) + 1 := by omega
  have hin : i ≤ n := by omega
  have htn : ((i : Int) + 1).toNat = i + 1 := by omega
  have hne : ((i : Int) == (n : Int)) = false := by simp; omega
  have hb2 : ¬ (G = i + 1) := by omega
  have hb3 : (i : Int) ≤ (n : Int) := by omega
  have hb4 : ¬ (c0 = i) := by omega
  have hb5 : ¬ (G = i) := by omega
  have hroom2 : (c0 : Int) < (n : Int) + 1 := by omega
  clear hW hx hN hNx hg hxb huo hfr huW hone hd hnews1 hcellg hi0 hz0 hzs hzb hold hG hik hROW hRl hRt hW1 hrz hgW hxW hgN1 hxN1 hN1 hR1 hW2 hR1l hcpA hN2 hgN2 hcl1 hR2 hW3 hcpB hN3 hput hsame hgrow hfin hg0 hcl hct hxl hpl
  go_enter Try.func137, Try.ntmps137
  go_wp2_with (first
    | (at_builtin; refine Lib.wpList_append_run _ rfl _ _ _ _ rfl _ _ rfl rfl _ _ (HZ.out _) ?_)
    | (refine wpList_copyR rfl (.tmp 43) (.tmp 44) 51 51 rfl (.slice (some ⟨N, i * 2, none⟩) (n + 1 - i) (G - i)) (.slice (some ⟨x, 0, none⟩) 1 1) rfl rfl HA.out ?_))
  go_region_law (refine step_copyR rfl (.tmp 50) (.tmp 53) 51 51 rfl (.slice (some ⟨N, (i + 1) * 2, none⟩) (n - i) (G - (i + 1))) (.slice (some ⟨g, i * 2, none⟩) (n - i) (c0 - i)) (by simp [Act.eval, Act.put]) (by simp [Act.eval, Act.put]) HB.out ?_)
  clear hw1
  go_wp2
  go_ret
  exact HF.out

theorem insert_any {w0 : World} {base b n i : Nat} {A0 : Option Addr} {u : Value} {ps : List (List Int × Int)} {cells : List Value} {l : List Int} {y : Int} (c0 : Nat) (h : OP w0 base b (.slice A0 n c0) ps cells) (hu : OI w0 b u l)
    (hap : ∀ u' ∈ cells, u'.ownBlock = none ∨ u'.ownBlock ≠ u.ownBlock) (hi : i ≤ n) (hlen : n + 1 ≤ 1000000000000) (hbase : base ≤ w0.heap.size) :
    Calls Try.prog 137 #[.slice A0 n c0, .int .i64 (i : Int), .slice (some ⟨w0.heap.size, 0, none⟩) 1 1] (w0.alloc (.cells #[u, .int .i64 y] 81))
      (InsP (w0.alloc (.cells #[u, .int .i64 y] 81)) base b (.slice A0 n c0) (putAt ps i [(l, y)])) := by
  obtain ⟨A', n', c', hv, hn0, _⟩ := h.form
  obtain ⟨rfl, rfl, rfl⟩ := slice_inj hv
  rcases Nat.lt_or_ge i n with h1 | h1
  · rcases Nat.lt_or_ge c0 (n + 1) with h2 | h2
    · exact ins_grow c0 h hu hap h1 h2 (by omega) hbase
    · exact ins_shift c0 h hu hap h1 h2 (by omega)
  · obtain rfl : i = n := by omega
    have e : putAt ps i [(l, y)] = ps ++ [(l, y)] := by
      unfold putAt
      rw [List.take_of_length_le (by omega), List.drop_eq_nil_of_le (by omega)]
      simp
    rw [e]
    exact ins_end c0 h hu hap (by omega) hbase
end Go.Proofs.Yteodckkkjhapgaa
