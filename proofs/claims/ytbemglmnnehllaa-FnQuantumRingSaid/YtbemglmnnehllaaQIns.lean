/- slices.Insert of one shape with a power into an owned slice (printed by qins_gen.py out of XIns, XInsM, XInsG). -/
import Derived.Test.YtbemglmnnehllaaQParts
import Derived.Test.YtbemglmnnehllaaIns
namespace Go.Proofs.Ytbemglmnnehllaa
open Go.RowKit
/-- What Insert leaves, of shapes with powers. -/
def InsU (w : World) (base b : Nat) (v0 : Value) (ps : List QT) : Ending → World → Prop := fun e w' =>
  ∃ v' cells', e = .returned v' ∧ OU w' base b v' ps cells' ∧ w.grownBy w' v0.ownBlock ∧ From w v0 v'
theorem qF_take (ps : List QT) (i : Nat) : (qF ps).take (i * 3) = qF (ps.take i) := by
  induction ps generalizing i with
  | nil => simp [qF]
  | cons p r ih =>
    cases i with
    | zero => simp [qF]
    | succ i =>
      have e : (i + 1) * 3 = i * 3 + 1 + 1 + 1 := by omega
      have := ih i
      simp only [qF, List.flatMap_cons, List.take_succ_cons] at this ⊢
      rw [e]
      simp [this]
theorem qF_drop (ps : List QT) (i : Nat) : (qF ps).drop (i * 3) = qF (ps.drop i) := by
  induction ps generalizing i with
  | nil => simp [qF]
  | cons p r ih =>
    cases i with
    | zero => simp [qF]
    | succ i =>
      have e : (i + 1) * 3 = i * 3 + 1 + 1 + 1 := by omega
      have := ih i
      simp only [qF, List.flatMap_cons, List.drop_succ_cons] at this ⊢
      rw [e]
      simp [this]
theorem qF_put (ps : List QT) (i : Nat) (l : List Int) (px y : Int) : putAt (qF ps) (i * 3) [.inl px, .inr l, .inl y] = qF (putAt ps i [(px, l, y)]) := by
  unfold putAt
  rw [qF_append, qF_append, qF_take, qF_drop]
  rfl
theorem Try.sizeQP : (Try.prog.info? 44).map (·.size) = some 3 := by kernel_rfl
theorem insU_end {w0 : World} {base b n : Nat} {A0 : Option Addr} {u : Value} {ps : List QT} {cells : List Value} {l : List Int} {px y : Int} (c0 : Nat) (h : OU w0 base b (.slice A0 n c0) ps cells) (hu : OI w0 b u l)
    (hap : ∀ u' ∈ cells, u'.ownBlock = none ∨ u'.ownBlock ≠ u.ownBlock) (hlen : ps.length + 1 ≤ 1000000000000) (hbase : base ≤ w0.heap.size) :
    Calls Try.prog 18 #[.slice A0 n c0, .int .i64 (n : Int), .slice (some ⟨w0.heap.size, 0, none⟩) 1 1] (w0.alloc (.cells #[.int .i64 px, u, .int .i64 y] 44))
      (InsU (w0.alloc (.cells #[.int .i64 px, u, .int .i64 y] 44)) base b (.slice A0 n c0) (ps ++ [(px, l, y)])) := by
  obtain ⟨A', n', c', hv, hn0, hc, hc63⟩ := h.form
  obtain ⟨rfl, rfl, rfl⟩ := slice_inj hv
  rw [hn0] at hlen
  have HN := Lib.hid hn0
  clear hn0
  have HF : Hid (∀ (v' : Value) (w' : World), OU w' base b v' (ps ++ [(px, l, y)]) (cells ++ [.int .i64 px, u, .int .i64 y]) → (w0.alloc (.cells #[.int .i64 px, u, .int .i64 y] 44)).grownBy w' (Value.ownBlock (.slice A0 n c0)) → (v'.ownBlock = Value.ownBlock (.slice A0 n c0) ∨ v'.ownBlock = some (w0.heap.size + 1)) →
      InsU (w0.alloc (.cells #[.int .i64 px, u, .int .i64 y] 44)) base b (.slice A0 n c0) (ps ++ [(px, l, y)]) (.returned v') w') := fun v' w' h1 h2 h3 =>
    ⟨v', _, rfl, h1, h2, h3.imp id fun e k hk => by rw [e] at hk; injection hk with hk; simp; omega⟩
  by_cases hcn : c0 = n
  · subst hcn
    go_enter Try.func18, Try.ntmps18
    go_wp2_with (at_builtin; refine wpAppU rfl _ _ rfl base b (.slice A0 c0 c0) u ps cells l px y rfl rfl h hu hap (by rw [HN.out]; omega) hbase ?_; intro v' w' h1 h2 h3)
    go_ret
    exact HF.out _ _ h1 h2 h3
  · go_enter Try.func18, Try.ntmps18
    go_wp2_with (at_builtin; refine wpAppU rfl _ _ rfl base b (.slice A0 n c0) u ps cells l px y rfl rfl h hu hap (by rw [HN.out]; omega) hbase ?_; intro v' w' h1 h2 h3)
    go_ret
    exact HF.out _ _ h1 h2 h3

/-- An owned row, as a block. -/
theorem OU.row {w : World} {base b n c0 : Nat} {A0 : Option Addr} {ps : List QT} {cells : List Value} (h : OU w base b (.slice A0 n c0) ps cells) (hn : 0 < n) :
    ∃ g, ∃ cur : List Value, A0 = some ⟨g, 0, none⟩ ∧ base ≤ g ∧ g < w.heap.size ∧ w.heap[g]? = some (.cells cur.toArray 44 (0, 0)) ∧ n ≤ c0 ∧ c0 ≤ 9223372036854775807 ∧ cur.length = c0 * 3 ∧ cur.take (n * 3) = cells ∧ cells.length = n * 3 ∧ ps.length = n := by
  obtain ⟨A', n', c', hv, hn0, hc, hc63⟩ := h.form
  obtain ⟨rfl, rfl, rfl⟩ := slice_inj hv
  rcases h.1.2 with ⟨he, h0⟩ | ⟨g, cap, cur, he, hb, hg, hnc, hcm, hs, ht⟩
  · omega
  · obtain ⟨rfl, rfl, rfl⟩ := slice_inj he
    refine ⟨g, cur.toList, rfl, hb, (h.lt g rfl).2, by simpa using hg, hnc, hc63, by simpa using hs, ?_, ?_, hn0⟩
    · rw [← hn0]; exact ht
    · rw [← hn0]; exact h.1.1
/-- The row put together again. -/
theorem OU.of_row {w w' : World} {base b g c n i : Nat} {u : Value} {l : List Int} {px y : Int} {ps : List QT} {cells row : List Value}
    (hfr : FRs w b (qF ps) cells) (hd : Dist cells) (hu : OI w b u l) (hap : ∀ u' ∈ cells, u'.ownBlock = none ∨ u'.ownBlock ≠ u.ownBlock)
    (hb : base ≤ g) (hg : w'.heap[g]? = some (.cells row.toArray 44 (0, 0))) (hn : ps.length = n) (hc : n + 1 ≤ c) (hc63 : c ≤ 9223372036854775807) (hrow : row.length = c * 3) (ht : row.take ((n + 1) * 3) = putAt cells (i * 3) [.int .i64 px, u, .int .i64 y]) (hi : i ≤ n)
    (hk : ∀ k, k < w.heap.size → (∃ cs m, w.heap[k]? = some (.cells cs 3 m)) → w'.heap[k]? = w.heap[k]?) :
    OU w' base b (.slice (some ⟨g, 0, none⟩) (n + 1) c) (putAt ps i [(px, l, y)]) (putAt cells (i * 3) [.int .i64 px, u, .int .i64 y]) := by
  have hlen : (putAt ps i [(px, l, y)]).length = n + 1 := by rw [putAt_len _ _ _ (by omega)]; simp [hn]
  have hcl : cells.length = n * 3 := by rw [hfr.1, qF_len, hn]
  have hfr2 : FRs w b (qF (putAt ps i [(px, l, y)])) (putAt cells (i * 3) [.int .i64 px, u, .int .i64 y]) := by
    rw [← qF_put]
    exact hfr.putAt (FRs.three hu) (i * 3)
  refine ⟨⟨?_, .inr ⟨g, c, row.toArray, ?_, hb, hg, ?_, by simpa [maxLen] using hc63, by simpa using hrow, ?_⟩⟩, ⟨hfr2.1, fun j x v h1 h2 => ?_⟩, ?_⟩
  · rw [hlen, putAt_len _ _ _ (by omega), hcl]; simp; omega
  · rw [hlen]
  · rw [hlen]; exact hc
  · rw [hlen]; simpa using ht
  · have hf := hfr2.2 j x v h1 h2
    cases x with
    | inl n => exact hf
    | inr l' =>
      refine OI.same (w := w) hf fun k hk' => hk k ((OI.lt hf k hk').2) ?_
      exact OI.typed hf k hk'
  · refine hd.putAt (Dist.three _ _ _) _ fun a ha a' ha' => ?_
    simp at ha'
    rcases ha' with rfl | rfl | rfl
    · rcases h : a.ownBlock with _ | k
      · exact .inl rfl
      · exact .inr (by simp [Value.ownBlock])
    · exact hap a ha
    · rcases h : a.ownBlock with _ | k
      · exact .inl rfl
      · exact .inr (by simp [Value.ownBlock])

set_option maxRecDepth 100000 in
set_option maxHeartbeats 2000000 in
theorem insU_shift {w0 : World} {base b n i : Nat} {A0 : Option Addr} {u : Value} {ps : List QT} {cells : List Value} {l : List Int} {px y : Int} (c0 : Nat) (h : OU w0 base b (.slice A0 n c0) ps cells) (hu : OI w0 b u l)
    (hap : ∀ u' ∈ cells, u'.ownBlock = none ∨ u'.ownBlock ≠ u.ownBlock) (hi : i < n) (hroom : n + 1 ≤ c0) (hlen : n ≤ 1000000000000) :
    Calls Try.prog 18 #[.slice A0 n c0, .int .i64 (i : Int), .slice (some ⟨w0.heap.size, 0, none⟩) 1 1] (w0.alloc (.cells #[.int .i64 px, u, .int .i64 y] 44))
      (InsU (w0.alloc (.cells #[.int .i64 px, u, .int .i64 y] 44)) base b (.slice A0 n c0) (putAt ps i [(px, l, y)])) := by
  obtain ⟨g, cur, rfl, hb, hgl, hg0, _, hc63, hcl, hct, hxl, hpl⟩ := OU.row h (by omega)
  obtain ⟨W, hW⟩ : ∃ W, W = w0.alloc (.cells #[.int .i64 px, u, .int .i64 y] 44) := ⟨_, rfl⟩
  obtain ⟨x, hx⟩ : ∃ x, x = w0.heap.size := ⟨_, rfl⟩
  have hg : W.heap[g]? = some (.cells cur.toArray 44 (0, 0)) := by rw [hW]; exact (Below.heap_alloc w0 _ g hgl).trans hg0
  have hxb : W.heap[x]? = some (.cells #[.int .i64 px, u, .int .i64 y] 44 (0, 0)) := by rw [hW, hx]; exact heap_alloc_new w0 _
  have hxg : x ≠ g := by omega
  have huo : u.oneCell' = true := OI.one hu
  have hfr : FRs W b (qF ps) cells := by rw [hW]; exact h.2.1.below ((Below.refl _ _).alloc (Nat.le_refl _) _)
  have huW : OI W b u l := by rw [hW]; exact OI.alloc hu _
  have hone := hfr.one
  have hd := h.2.2
  rw [← hW, ← hx]
  have hnews1 : ∀ v ∈ ([.int .i64 px, u, .int .i64 y] : List Value), v.oneCell' = true := by
    intro v hv
    simp at hv
    rcases hv with rfl | rfl | rfl
    · rfl
    · exact huo
    · rfl
  -- the call of overlaps
  have hov : ∀ lb cb, (callFunc 42 #[.slice (some ⟨x, 0, none⟩) 1 1, .slice (some ⟨g, (i + 1) * 3, none⟩) lb cb]).run Try.prog W = .ok (.value (.bool false)) W := fun lb cb => by
    rw [run_callFunc_extern Try.func42 (by kernel_rfl) (by kernel_rfl) (by kernel_rfl) (e := Extern.SlicesOverlaps.overlaps #[27, 27] #[4]) (by kernel_rfl),
      Lib.run_overlaps_apart W 27 4 44 Try.underlying27 3 Try.sizeOf44 ⟨x, 0, none⟩ ⟨g, (i + 1) * 3, none⟩ 1 1 lb cb hxg 44 44 3 (c0 * 3) (by simp [World.shape?, hxb]) (by simp [World.shape?, hg, hcl]) (by omega) (by simp [World.frozen?, hxb]) (by simp [World.frozen?, hxb])]
    rfl
  -- the first copy
  have hcl1 : (cells.drop (i * 3)).length = (n - i) * 3 := by rw [List.length_drop, hxl]; omega
  have hsrc1 : ∀ j v, (cells.drop (i * 3))[j]? = some v → W.drew.cell? ((⟨g, i * 3, none⟩ : Addr).add j) = some v := fun j v hv => by
    rw [addr_at, row_cellAt (w := W.drew) hg]
    have hj := (List.getElem?_eq_some_iff.1 hv).1
    rw [List.getElem?_drop, ← hct, List.getElem?_take, if_pos (by rw [hcl1] at hj; omega)] at hv
    exact hv
  obtain ⟨W1, hW1⟩ : ∃ W1, W1 = W.drew.setRow g (splice cur ((i + 1) * 3) (cells.drop (i * 3))).toArray := ⟨_, rfl⟩
  have hcp1 : ∀ ty, (Builtin.copy_ #[27, 27] ty #[.slice (some ⟨g, (i + 1) * 3, none⟩) (n - i) (c0 - (i + 1)), .slice (some ⟨g, i * 3, none⟩) (n + 1 - i) (c0 - i)]).run Try.prog W.drew = .ok (goInt ((n - i : Nat) : Int)) W1 := fun ty => by
    rw [run_copy_rowK W.drew 27 27 ty 44 g ((i + 1) * 3) (n - i) (c0 - (i + 1)) ⟨g, i * 3, none⟩ (n + 1 - i) (c0 - i) cur.toArray 44 (cells.drop (i * 3)) 3 (n - i) Try.underlying27 Try.sizeQP hg (by simp only [Nat.min_def]; split <;> omega) hcl1 hsrc1 (by simp only [List.size_toArray]; omega) (fun v hv => hone v (List.mem_of_mem_drop hv)), toArray_splice, hW1]
  have hg1 : W1.heap[g]? = some (.cells (splice cur ((i + 1) * 3) (cells.drop (i * 3))).toArray 44 (0, 0)) := by rw [hW1]; exact setRow_heap W.drew g _ _ _ _ hg
  have hx1 : W1.heap[x]? = some (.cells #[.int .i64 px, u, .int .i64 y] 44 (0, 0)) := by rw [hW1, setRow_other _ _ _ _ (by omega)]; exact hxb
  have hl1 : (splice cur ((i + 1) * 3) (cells.drop (i * 3))).length = c0 * 3 := by rw [length_splice _ _ _ (by omega), hcl]
  -- the second copy
  have hsrc2 : ∀ j v, ([.int .i64 px, u, .int .i64 y] : List Value)[j]? = some v → W1.cell? ((⟨x, 0, none⟩ : Addr).add j) = some v := fun j v hv => by
    rw [addr_at, row_cellAt (cur := [.int .i64 px, u, .int .i64 y]) hx1, Nat.zero_add]
    exact hv
  obtain ⟨W2, hW2⟩ : ∃ W2, W2 = W1.setRow g (splice (splice cur ((i + 1) * 3) (cells.drop (i * 3))) (i * 3) [.int .i64 px, u, .int .i64 y]).toArray := ⟨_, rfl⟩
  have hcp2 : ∀ ty, (Builtin.copy_ #[27, 27] ty #[.slice (some ⟨g, i * 3, none⟩) (n + 1 - i) (c0 - i), .slice (some ⟨x, 0, none⟩) 1 1]).run Try.prog W1 = .ok (goInt ((1 : Nat) : Int)) W2 := fun ty => by
    rw [run_copy_rowK W1 27 27 ty 44 g (i * 3) (n + 1 - i) (c0 - i) ⟨x, 0, none⟩ 1 1 _ 44 [.int .i64 px, u, .int .i64 y] 3 1 Try.underlying27 Try.sizeQP hg1 (by simp only [Nat.min_def]; split <;> omega) rfl hsrc2 (by simp only [List.size_toArray, hl1, List.length_cons, List.length_nil]; omega) hnews1, toArray_splice, hW2]
  have hg2 : W2.heap[g]? = some (.cells (splice (splice cur ((i + 1) * 3) (cells.drop (i * 3))) (i * 3) [.int .i64 px, u, .int .i64 y]).toArray 44 (0, 0)) := by rw [hW2]; exact setRow_heap W1 g _ _ _ _ hg1
  have hgrow : W.grownBy W2 (some g) := by
    rw [hW2, hW1]
    refine ⟨rfl, rfl, rfl, by simp [World.setRow], fun k hk hne => ?_⟩
    have hkg : k ≠ g := fun e => hne (by rw [e])
    rw [setRow_other _ _ _ _ (by omega), setRow_other _ _ _ _ (by omega)]
    rfl
  have hput := row_put cur cells (cells.drop (i * 3)) [.int .i64 px, u, .int .i64 y] (i * 3) 3 (by rw [hxl]; exact hct) (by rw [hxl, hcl]; simp; omega) (by rw [hxl]; omega) rfl rfl
  rw [show i * 3 + 3 = (i + 1) * 3 by omega, hxl, show n * 3 + 3 = (n + 1) * 3 by omega] at hput
  have hfin : InsU W base b (.slice (some ⟨g, 0, none⟩) n c0) (putAt ps i [(px, l, y)]) (.returned (.slice (some ⟨g, 0, none⟩) (n + 1) c0)) W2 :=
    ⟨_, _, rfl, OU.of_row hfr hd huW hap hb hg2 hpl hroom hc63 (by rw [hput.2, hcl]) hput.1 (by omega) (fun k hk ⟨cs, m, ht⟩ => hgrow.block k hk fun e => by
      injection e with e
      subst e
      rw [hg] at ht
      injection ht with ht
      injection ht with _ ht
      exact absurd ht (by decide)), hgrow, .inl rfl⟩
  have HF := Lib.hid hfin
  have HC1 := Lib.hid hcp1
  have HC2 := Lib.hid hcp2
  have hw1 : IntKind.i64.wrap ((i : Int) + 1) = (i : Int) + 1 := by rw [IntKind.wrap_i64]; omega
  have hb1 : (0 : Int) ≤ (i : Int) + 1 := by omega
  have hin : i ≤ n := by omega
  have htn : ((i : Int) + 1).toNat = i + 1 := by omega
  have hne : ((i : Int) == (n : Int)) = false := by simp; omega
  have hb2 : ¬ (c0 = i + 1) := by omega
  have hb3 : (i : Int) ≤ (n : Int) + 1 := by omega
  have hb4 : ¬ (c0 = i) := by omega
  have hroom2 : ¬ (c0 : Int) < (n : Int) + 1 := by omega
  clear hW hx hfin hcp1 hcp2 hput hgrow hg2 hW2 hsrc2 hl1 hx1 hg1 hW1 hsrc1 hcl1 hnews1 hone hfr huW hxb hg hg0 hcl hct hxl hpl
  go_enter Try.func18, Try.ntmps18
  go_wp2_with (simp only [hov])
  go_region_law (refine step_copyR rfl (.tmp 73) (.tmp 76) 27 27 rfl (.slice (some ⟨g, (i + 1) * 3, none⟩) (n - i) (c0 - (i + 1))) (.slice (some ⟨g, i * 3, none⟩) (n + 1 - i) (c0 - i)) (by simp [Act.eval, Act.put]) (by simp [Act.eval, Act.put]) HC1.out ?_)
  clear hw1
  go_wp2_with (refine wpList_copyR rfl (.tmp 80) (.tmp 81) 27 27 rfl (.slice (some ⟨g, i * 3, none⟩) (n + 1 - i) (c0 - i)) (.slice (some ⟨x, 0, none⟩) 1 1) rfl rfl HC2.out ?_)
  go_ret
  exact HF.out

set_option maxRecDepth 100000 in
set_option maxHeartbeats 2000000 in
theorem insU_grow {w0 : World} {base b n i : Nat} {A0 : Option Addr} {u : Value} {ps : List QT} {cells : List Value} {l : List Int} {px y : Int} (c0 : Nat) (h : OU w0 base b (.slice A0 n c0) ps cells) (hu : OI w0 b u l)
    (hap : ∀ u' ∈ cells, u'.ownBlock = none ∨ u'.ownBlock ≠ u.ownBlock) (hi : i < n) (hroom : c0 < n + 1) (hlen : n ≤ 1000000000000) (hbase : base ≤ w0.heap.size) :
    Calls Try.prog 18 #[.slice A0 n c0, .int .i64 (i : Int), .slice (some ⟨w0.heap.size, 0, none⟩) 1 1] (w0.alloc (.cells #[.int .i64 px, u, .int .i64 y] 44))
      (InsU (w0.alloc (.cells #[.int .i64 px, u, .int .i64 y] 44)) base b (.slice A0 n c0) (putAt ps i [(px, l, y)])) := by
  obtain ⟨g, cur, rfl, hb, hgl, hg0, hnc, hc63, hcl, hct, hxl, hpl⟩ := OU.row h (by omega)
  obtain ⟨W, hW⟩ : ∃ W, W = w0.alloc (.cells #[.int .i64 px, u, .int .i64 y] 44) := ⟨_, rfl⟩
  obtain ⟨x, hx⟩ : ∃ x, x = w0.heap.size := ⟨_, rfl⟩
  obtain ⟨N, hN⟩ : ∃ N, N = W.heap.size := ⟨_, rfl⟩
  have hNx : N = x + 1 := by rw [hN, hW, hx]; simp
  have hg : W.heap[g]? = some (.cells cur.toArray 44 (0, 0)) := by rw [hW]; exact (Below.heap_alloc w0 _ g hgl).trans hg0
  have hxb : W.heap[x]? = some (.cells #[.int .i64 px, u, .int .i64 y] 44 (0, 0)) := by rw [hW, hx]; exact heap_alloc_new w0 _
  have huo : u.oneCell' = true := OI.one hu
  have hfr : FRs W b (qF ps) cells := by rw [hW]; exact h.2.1.below ((Below.refl _ _).alloc (Nat.le_refl _) _)
  have huW : OI W b u l := by rw [hW]; exact OI.alloc hu _
  have hone := hfr.one
  have hd := h.2.2
  rw [← hW, ← hx]
  have hnews1 : ∀ v ∈ ([.int .i64 px, u, .int .i64 y] : List Value), v.oneCell' = true := by
    intro v hv
    simp at hv
    rcases hv with rfl | rfl | rfl
    · rfl
    · exact huo
    · rfl
  have hcellg : ∀ (W' : World), W'.heap[g]? = some (.cells cur.toArray 44 (0, 0)) → ∀ o j v, cells[o + j]? = some v → W'.cell? ((⟨g, o, none⟩ : Addr).add j) = some v := fun W' hW' o j v hv => by
    rw [addr_at, row_cellAt hW']
    have hj := (List.getElem?_eq_some_iff.1 hv).1
    rw [← hct, List.getElem?_take, if_pos (by omega)] at hv
    exact hv
  -- the new row
  obtain ⟨i0, hi0, hz0, hzs, hzb⟩ := info_parts Try.infoQP
  have hold : (Builtin.firstCells i0.size i (.slice (some ⟨g, 0, none⟩) i c0)).run Try.prog W.drew = .ok (cells.take (i * 3)).toArray W.drew := by
    rw [hzs]
    refine run_firstCells_some W.drew 3 i ⟨g, 0, none⟩ i c0 (cells.take (i * 3)) (by rw [List.length_take]; omega) fun j v hj => ?_
    rw [List.getElem?_take] at hj
    split at hj
    · exact hcellg W.drew hg 0 j v (by rw [Nat.zero_add]; exact hj)
    · cases hj
  obtain ⟨G, hG⟩ : ∃ G, G = grownCap W (n + 1) c0 44 := ⟨_, rfl⟩
  have hGn : n + 1 ≤ G := by rw [hG]; exact grownCap_ge W _ _ _
  have hG63 : G ≤ 9223372036854775807 := by
    have := grownCap_le_maxLen W (n + 1) c0 44 (by unfold maxLen; omega)
    rw [← hG] at this
    unfold maxLen at this
    omega
  have hik : i + (n + 1 - i) = n + 1 := by omega
  obtain ⟨ROW, hROW⟩ : ∃ ROW : Array Value, ROW = (cells.take (i * 3)).toArray ++ Builtin.zeroCells (Value.agg #[.int .i64 0, .slice none 0 0, .int .i64 0]).cells (n + 1 - i) ++ Builtin.zeroCells (Value.agg #[.int .i64 0, .slice none 0 0, .int .i64 0]).cells (G - (n + 1)) := ⟨_, rfl⟩
  have hRl : ROW.size = G * 3 := by
    rw [hROW]
    have e : (Value.agg #[.int .i64 0, .slice none 0 0, .int .i64 0]).cells.size = 3 := rfl
    simp only [Array.size_append, List.size_toArray, List.length_take, Builtin.zeroCells, Array.size_map, Array.size_range, e, hxl]
    omega
  have hRt : ROW.toList.take (i * 3) = cells.take (i * 3) := by
    have hl : (cells.take (i * 3)).length = i * 3 := by rw [List.length_take]; omega
    rw [hROW]
    simp only [Array.toList_append, List.append_assoc]
    rw [List.take_append_of_le_length (by rw [hl]; exact Nat.le_refl _), List.take_of_length_le (by rw [hl]; exact Nat.le_refl _)]
  obtain ⟨W1, hW1⟩ : ∃ W1, W1 = W.drew.alloc (.cells ROW 44) := ⟨_, rfl⟩
  have hrz : ∀ ty, (Builtin.append_ #[27, 3] ty #[.slice (some ⟨g, 0, none⟩) i c0, .int .i64 ((n : Int) + 1 - (i : Int))]).run Try.prog W = .ok (.slice (some ⟨N, 0, none⟩) (n + 1) G) W1 := fun ty => by
    have hh := Lib.run_append_grow_zeros W 27 3 ty 44 i0 _ .i64 .i64 Try.underlying27 Try.underlying3 hi0 hz0 (some ⟨g, 0, none⟩) i c0 (cells.take (i * 3)) hold (n + 1 - i) (by omega) (by omega) (by omega) (by omega) (by rw [hzb]; omega) (by rw [hzb, hik]; exact growslice_fits hroom (by omega))
    rw [hik, ← hG, ← hROW, ← hN, ← hW1] at hh
    rw [show (n : Int) + 1 - (i : Int) = ((n + 1 - i : Nat) : Int) by omega]
    exact hh
  have hgW : g < W.heap.size := by rw [hW]; simp; omega
  have hxW : x < W.heap.size := by omega
  have hgN1 : W1.heap[g]? = some (.cells cur.toArray 44 (0, 0)) := by rw [hW1]; exact (Below.heap_alloc W.drew _ g hgW).trans hg
  have hxN1 : W1.heap[x]? = some (.cells #[.int .i64 px, u, .int .i64 y] 44 (0, 0)) := by rw [hW1]; exact (Below.heap_alloc W.drew _ x hxW).trans hxb
  have hN1 : W1.heap[N]? = some (.cells ROW.toList.toArray 44 (0, 0)) := by rw [hW1, hN]; exact heap_alloc_new W.drew _
  -- the copy of the part
  obtain ⟨R1, hR1⟩ : ∃ R1, R1 = splice ROW.toList (i * 3) [.int .i64 px, u, .int .i64 y] := ⟨_, rfl⟩
  obtain ⟨W2, hW2⟩ : ∃ W2, W2 = W1.setRow N R1.toArray := ⟨_, rfl⟩
  have hR1l : R1.length = G * 3 := by rw [hR1, length_splice _ _ _ (by simp; omega)]; simpa using hRl
  have hcpA : ∀ ty, (Builtin.copy_ #[27, 27] ty #[.slice (some ⟨N, i * 3, none⟩) (n + 1 - i) (G - i), .slice (some ⟨x, 0, none⟩) 1 1]).run Try.prog W1 = .ok (goInt ((1 : Nat) : Int)) W2 := fun ty => by
    rw [run_copy_rowK W1 27 27 ty 44 N (i * 3) (n + 1 - i) (G - i) ⟨x, 0, none⟩ 1 1 _ 44 [.int .i64 px, u, .int .i64 y] 3 1 Try.underlying27 Try.sizeQP hN1 (by simp only [Nat.min_def]; split <;> omega) rfl (fun j v hv => by rw [addr_at, row_cellAt (cur := [.int .i64 px, u, .int .i64 y]) hxN1, Nat.zero_add]; exact hv)
      (by simp only [List.size_toArray, List.length_cons, List.length_nil, Array.length_toList]; omega) hnews1, toArray_splice, hW2, hR1]
  have hN2 : W2.heap[N]? = some (.cells R1.toArray 44 (0, 0)) := by rw [hW2]; exact setRow_heap W1 N _ _ _ _ hN1
  have hgN2 : W2.heap[g]? = some (.cells cur.toArray 44 (0, 0)) := by rw [hW2, setRow_other _ _ _ _ (by omega)]; exact hgN1
  -- the copy of what lies behind
  have hcl1 : (cells.drop (i * 3)).length = (n - i) * 3 := by rw [List.length_drop, hxl]; omega
  obtain ⟨R2, hR2⟩ : ∃ R2, R2 = splice R1 ((i + 1) * 3) (cells.drop (i * 3)) := ⟨_, rfl⟩
  obtain ⟨W3, hW3⟩ : ∃ W3, W3 = W2.drew.setRow N R2.toArray := ⟨_, rfl⟩
  have hcpB : ∀ ty, (Builtin.copy_ #[27, 27] ty #[.slice (some ⟨N, (i + 1) * 3, none⟩) (n - i) (G - (i + 1)), .slice (some ⟨g, i * 3, none⟩) (n - i) (c0 - i)]).run Try.prog W2.drew = .ok (goInt ((n - i : Nat) : Int)) W3 := fun ty => by
    rw [run_copy_rowK W2.drew 27 27 ty 44 N ((i + 1) * 3) (n - i) (G - (i + 1)) ⟨g, i * 3, none⟩ (n - i) (c0 - i) _ 44 (cells.drop (i * 3)) 3 (n - i) Try.underlying27 Try.sizeQP hN2 (by simp only [Nat.min_def]; split <;> omega) hcl1 (fun j v hv => by
        rw [List.getElem?_drop] at hv
        exact hcellg W2.drew hgN2 (i * 3) j v hv)
      (by simp only [List.size_toArray]; omega) (fun v hv => hone v (List.mem_of_mem_drop hv)), toArray_splice, hW3, hR2]
  have hN3 : W3.heap[N]? = some (.cells R2.toArray 44 (0, 0)) := by rw [hW3]; exact setRow_heap W2.drew N _ _ _ _ hN2
  have hput := row_put2 ROW.toList cells [.int .i64 px, u, .int .i64 y] (i * 3) 3 hRt (by simp only [Array.length_toList, List.length_cons, List.length_nil]; omega) (by omega) rfl
  rw [← hR1, show i * 3 + 3 = (i + 1) * 3 by omega, ← hR2, hxl, show n * 3 + 3 = (n + 1) * 3 by omega] at hput
  have hsame : ∀ k, k < W.heap.size → W3.heap[k]? = W.heap[k]? := fun k hk => by
    rw [hW3, setRow_other _ _ _ _ (by omega)]
    show W2.heap[k]? = _
    rw [hW2, setRow_other _ _ _ _ (by omega), hW1]
    exact Below.heap_alloc W.drew _ k hk
  have hgrow : W.grownBy W3 (some g) := by
    refine ⟨?_, ?_, ?_, ?_, fun k hk _ => hsame k hk⟩
    · rw [hW3, hW2, hW1]; rfl
    · rw [hW3, hW2, hW1]; rfl
    · rw [hW3, hW2, hW1]; rfl
    · rw [hW3, hW2, hW1]; simp [World.setRow]
  have hfin : InsU W base b (.slice (some ⟨g, 0, none⟩) n c0) (putAt ps i [(px, l, y)]) (.returned (.slice (some ⟨N, 0, none⟩) (n + 1) G)) W3 :=
    ⟨_, _, rfl, OU.of_row hfr hd huW hap (by omega) hN3 hpl hGn hG63 (by rw [hput.2]; simpa using hRl) hput.1 (by omega) (fun k hk _ => hsame k hk), hgrow, .inr fun k hk => by have hk2 : N = k := Option.some.inj hk; omega⟩
  have HF := Lib.hid hfin
  have HZ := Lib.hid hrz
  have HA := Lib.hid hcpA
  have HB := Lib.hid hcpB
  have hw1 : IntKind.i64.wrap ((i : Int) + 1) = (i : Int) + 1 := by rw [IntKind.wrap_i64]; omega
  have hb1 : (0 : Int) ≤ (i : Int) + 1 := by omega
  have hin : i ≤ n := by omega
  have htn : ((i : Int) + 1).toNat = i + 1 := by omega
  have hne : ((i : Int) == (n : Int)) = false := by simp; omega
  have hb2 : ¬ (G = i + 1) := by omega
  have hb3 : (i : Int) ≤ (n : Int) := by omega
  have hb4 : ¬ (c0 = i) := by omega
  have hb5 : ¬ (G = i) := by omega
  have hroom2 : (c0 : Int) < (n : Int) + 1 := by omega
  clear hW hx hN hNx hg hxb huo hfr huW hone hd hnews1 hcellg hi0 hz0 hzs hzb hold hG hik hROW hRl hRt hW1 hrz hgW hxW hgN1 hxN1 hN1 hR1 hW2 hR1l hcpA hN2 hgN2 hcl1 hR2 hW3 hcpB hN3 hput hsame hgrow hfin hg0 hcl hct hxl hpl
  go_enter Try.func18, Try.ntmps18
  go_wp2_with (first
    | (at_builtin; refine Lib.wpList_append_run _ rfl _ _ _ _ rfl _ _ rfl rfl _ _ (HZ.out _) ?_)
    | (refine wpList_copyR rfl (.tmp 43) (.tmp 44) 27 27 rfl (.slice (some ⟨N, i * 3, none⟩) (n + 1 - i) (G - i)) (.slice (some ⟨x, 0, none⟩) 1 1) rfl rfl HA.out ?_))
  go_region_law (refine step_copyR rfl (.tmp 50) (.tmp 53) 27 27 rfl (.slice (some ⟨N, (i + 1) * 3, none⟩) (n - i) (G - (i + 1))) (.slice (some ⟨g, i * 3, none⟩) (n - i) (c0 - i)) (by simp [Act.eval, Act.put]) (by simp [Act.eval, Act.put]) HB.out ?_)
  clear hw1
  go_wp2
  go_ret
  exact HF.out

theorem insertU_any {w0 : World} {base b n i : Nat} {A0 : Option Addr} {u : Value} {ps : List QT} {cells : List Value} {l : List Int} {px y : Int} (c0 : Nat) (h : OU w0 base b (.slice A0 n c0) ps cells) (hu : OI w0 b u l)
    (hap : ∀ u' ∈ cells, u'.ownBlock = none ∨ u'.ownBlock ≠ u.ownBlock) (hi : i ≤ n) (hlen : n + 1 ≤ 1000000000000) (hbase : base ≤ w0.heap.size) :
    Calls Try.prog 18 #[.slice A0 n c0, .int .i64 (i : Int), .slice (some ⟨w0.heap.size, 0, none⟩) 1 1] (w0.alloc (.cells #[.int .i64 px, u, .int .i64 y] 44))
      (InsU (w0.alloc (.cells #[.int .i64 px, u, .int .i64 y] 44)) base b (.slice A0 n c0) (putAt ps i [(px, l, y)])) := by
  obtain ⟨A', n', c', hv, hn0, _⟩ := h.form
  obtain ⟨rfl, rfl, rfl⟩ := slice_inj hv
  rcases Nat.lt_or_ge i n with h1 | h1
  · rcases Nat.lt_or_ge c0 (n + 1) with h2 | h2
    · exact insU_grow c0 h hu hap h1 h2 (by omega) hbase
    · exact insU_shift c0 h hu hap h1 h2 (by omega)
  · obtain rfl : i = n := by omega
    have e : putAt ps i [(px, l, y)] = ps ++ [(px, l, y)] := by
      unfold putAt
      rw [List.take_of_length_le (by omega), List.drop_eq_nil_of_le (by omega)]
      simp
    rw [e]
    exact insU_end c0 h hu hap (by omega) hbase
end Go.Proofs.Ytbemglmnnehllaa
