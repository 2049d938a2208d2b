/- slices.Insert of one part into an owned slice of parts. -/
import Derived.Test.YteodckkkjhapgaaCopyK
namespace Go.Proofs.Yteodckkkjhapgaa
open Go.RowKit

/-- What Insert leaves. -/
def InsP (w : World) (base b : Nat) (v0 : Value) (ps : List (List Int × Int)) : Ending → World → Prop := fun e w' =>
  ∃ v' cells', e = .returned v' ∧ OP w' base b v' ps cells' ∧ w.grownBy w' v0.ownBlock ∧ From w v0 v'
theorem partF_take (ps : List (List Int × Int)) (i : Nat) : (partF ps).take (i * 2) = partF (ps.take i) := by
  induction ps generalizing i with
  | nil => simp [partF]
  | cons p r ih =>
    cases i with
    | zero => simp [partF]
    | succ i =>
      have e : (i + 1) * 2 = i * 2 + 1 + 1 := by omega
      have := ih i
      simp only [partF, List.flatMap_cons, List.take_succ_cons] at this ⊢
      rw [e]
      simp [this]
theorem partF_drop (ps : List (List Int × Int)) (i : Nat) : (partF ps).drop (i * 2) = partF (ps.drop i) := by
  induction ps generalizing i with
  | nil => simp [partF]
  | cons p r ih =>
    cases i with
    | zero => simp [partF]
    | succ i =>
      have e : (i + 1) * 2 = i * 2 + 1 + 1 := by omega
      have := ih i
      simp only [partF, List.flatMap_cons, List.drop_succ_cons] at this ⊢
      rw [e]
      simp [this]
theorem partF_put (ps : List (List Int × Int)) (i : Nat) (l : List Int) (y : Int) : putAt (partF ps) (i * 2) [.inr l, .inl y] = partF (putAt ps i [(l, y)]) := by
  unfold putAt
  rw [partF_append, partF_append, partF_take, partF_drop]
  rfl
theorem Try.sizePart : (Try.prog.info? 81).map (·.size) = some 2 := by kernel_rfl
theorem ins_end {w0 : World} {base b n : Nat} {A0 : Option Addr} {u : Value} {ps : List (List Int × Int)} {cells : List Value} {l : List Int} {y : Int} (c0 : Nat) (h : OP w0 base b (.slice A0 n c0) ps cells) (hu : OI w0 b u l)
    (hap : ∀ u' ∈ cells, u'.ownBlock = none ∨ u'.ownBlock ≠ u.ownBlock) (hlen : ps.length + 1 ≤ 1000000000000) (hbase : base ≤ w0.heap.size) :
    Calls Try.prog 137 #[.slice A0 n c0, .int .i64 (n : Int), .slice (some ⟨w0.heap.size, 0, none⟩) 1 1] (w0.alloc (.cells #[u, .int .i64 y] 81))
      (InsP (w0.alloc (.cells #[u, .int .i64 y] 81)) base b (.slice A0 n c0) (ps ++ [(l, y)])) := by
  obtain ⟨A', n', c', hv, hn0, hc, hc63⟩ := h.form
  obtain ⟨rfl, rfl, rfl⟩ := slice_inj hv
  rw [hn0] at hlen
  have HN := Lib.hid hn0
  clear hn0
  have HF : Hid (∀ (v' : Value) (w' : World), OP w' base b v' (ps ++ [(l, y)]) (cells ++ [u, .int .i64 y]) → (w0.alloc (.cells #[u, .int .i64 y] 81)).grownBy w' (Value.ownBlock (.slice A0 n c0)) → (v'.ownBlock = Value.ownBlock (.slice A0 n c0) ∨ v'.ownBlock = some (w0.heap.size + 1)) →
      InsP (w0.alloc (.cells #[u, .int .i64 y] 81)) base b (.slice A0 n c0) (ps ++ [(l, y)]) (.returned v') w') := fun v' w' h1 h2 h3 =>
    ⟨v', _, rfl, h1, h2, h3.imp id fun e k hk => by rw [e] at hk; injection hk with hk; simp; omega⟩
  by_cases hcn : c0 = n
  · subst hcn
    go_enter Try.func137, Try.ntmps137
    go_wp2_with (at_builtin; refine wpAppP rfl _ _ rfl base b (.slice A0 c0 c0) u ps cells l y rfl rfl h hu hap (by rw [HN.out]; omega) hbase ?_; intro v' w' h1 h2 h3)
    go_ret
    exact HF.out _ _ h1 h2 h3
  · go_enter Try.func137, Try.ntmps137
    go_wp2_with (at_builtin; refine wpAppP rfl _ _ rfl base b (.slice A0 n c0) u ps cells l y rfl rfl h hu hap (by rw [HN.out]; omega) hbase ?_; intro v' w' h1 h2 h3)
    go_ret
    exact HF.out _ _ h1 h2 h3

/-- An owned row, as a block. -/
theorem OP.row {w : World} {base b n c0 : Nat} {A0 : Option Addr} {ps : List (List Int × Int)} {cells : List Value} (h : OP w base b (.slice A0 n c0) ps cells) (hn : 0 < n) :
    ∃ g, ∃ cur : List Value, A0 = some ⟨g, 0, none⟩ ∧ base ≤ g ∧ g < w.heap.size ∧ w.heap[g]? = some (.cells cur.toArray 81 (0, 0)) ∧ n ≤ c0 ∧ c0 ≤ 9223372036854775807 ∧ cur.length = c0 * 2 ∧ cur.take (n * 2) = cells ∧ cells.length = n * 2 ∧ ps.length = n := by
  obtain ⟨A', n', c', hv, hn0, hc, hc63⟩ := h.form
  obtain ⟨rfl, rfl, rfl⟩ := slice_inj hv
  rcases h.1.2 with ⟨he, h0⟩ | ⟨g, cap, cur, he, hb, hg, hnc, hcm, hs, ht⟩
  · omega
  · obtain ⟨rfl, rfl, rfl⟩ := slice_inj he
    refine ⟨g, cur.toList, rfl, hb, (h.lt g rfl).2, by simpa using hg, hnc, hc63, by simpa using hs, ?_, ?_, hn0⟩
    · rw [← hn0]; exact ht
    · rw [← hn0]; exact h.1.1
/-- The row put together again. -/
theorem OP.of_row {w w' : World} {base b g c n i : Nat} {u : Value} {l : List Int} {y : Int} {ps : List (List Int × Int)} {cells row : List Value}
    (hfr : FRs w b (partF ps) cells) (hd : Dist cells) (hu : OI w b u l) (hap : ∀ u' ∈ cells, u'.ownBlock = none ∨ u'.ownBlock ≠ u.ownBlock)
    (hb : base ≤ g) (hg : w'.heap[g]? = some (.cells row.toArray 81 (0, 0))) (hn : ps.length = n) (hc : n + 1 ≤ c) (hc63 : c ≤ 9223372036854775807) (hrow : row.length = c * 2) (ht : row.take ((n + 1) * 2) = putAt cells (i * 2) [u, .int .i64 y]) (hi : i ≤ n)
    (hk : ∀ k, k < w.heap.size → (∃ cs m, w.heap[k]? = some (.cells cs 3 m)) → w'.heap[k]? = w.heap[k]?) :
    OP w' base b (.slice (some ⟨g, 0, none⟩) (n + 1) c) (putAt ps i [(l, y)]) (putAt cells (i * 2) [u, .int .i64 y]) := by
  have hlen : (putAt ps i [(l, y)]).length = n + 1 := by rw [putAt_len _ _ _ (by omega)]; simp [hn]
  have hcl : cells.length = n * 2 := by rw [hfr.1, partF_len, hn]
  have hfr2 : FRs w b (partF (putAt ps i [(l, y)])) (putAt cells (i * 2) [u, .int .i64 y]) := by
    rw [← partF_put]
    exact hfr.putAt (FRs.two hu) (i * 2)
  refine ⟨⟨?_, .inr ⟨g, c, row.toArray, ?_, hb, hg, ?_, by simpa [maxLen] using hc63, by simpa using hrow, ?_⟩⟩, ⟨hfr2.1, fun j x v h1 h2 => ?_⟩, ?_⟩
  · rw [hlen, putAt_len _ _ _ (by omega), hcl]; simp; omega
  · rw [hlen]
  · rw [hlen]; exact hc
  · rw [hlen]; simpa using ht
  · have hf := hfr2.2 j x v h1 h2
    cases x with
    | inl n => exact hf
    | inr l' =>
      refine OI.same (w := w) hf fun k hk' => hk k ((OI.lt hf k hk').2) ?_
      exact OI.typed hf k hk'
  · refine hd.putAt (Dist.two _ _) _ fun a ha a' ha' => ?_
    simp at ha'
    rcases ha' with rfl | rfl
    · exact hap a ha
    · rcases h : a.ownBlock with _ | k
      · exact .inl rfl
      · exact .inr (by simp [Value.ownBlock])
end Go.Proofs.Yteodckkkjhapgaa
