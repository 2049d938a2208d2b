/- Words for memory, more: rows whose cells are numbers and slices of numbers ([][]int, slices of structs). -/
import Derived.Test.YteodckkkjhapgaaBasic
namespace Go.Proofs.Yteodckkkjhapgaa
open Go.RowKit

/-- A field: a number, or a list of numbers. -/
def FR (w : World) (b : Nat) : Int ⊕ List Int → Value → Prop
  | .inl n, u => u = .int .i64 n
  | .inr l, u => OI w b u l
/-- The cells u read as the fields f. -/
def FRs (w : World) (b : Nat) (fs : List (Int ⊕ List Int)) (cells : List Value) : Prop :=
  cells.length = fs.length ∧ ∀ (j : Nat) (x : Int ⊕ List Int) (u : Value), fs[j]? = some x → cells[j]? = some u → FR w b x u
/-- No two of the slices among the cells share a block. -/
def Dist (cells : List Value) : Prop := ∀ (i j : Nat) (u u' : Value), i < j → cells[i]? = some u → cells[j]? = some u' → u.ownBlock = none ∨ u.ownBlock ≠ u'.ownBlock

theorem OI.one {w : World} {b : Nat} {u : Value} {l : List Int} (h : OI w b u l) : u.oneCell' = true := by
  obtain ⟨A, n, c, rfl, _⟩ := h.form
  rfl
theorem FR.one {w : World} {b : Nat} {x : Int ⊕ List Int} {u : Value} (h : FR w b x u) : u.oneCell' = true := by
  cases x with
  | inl n => unfold FR at h; subst h; rfl
  | inr l => exact OI.one h
theorem OI.kept_type {w w' : World} {b : Nat} {u : Value} {l : List Int} {row : Option Nat} (h : OI w b u l) (hg : w.grownBy w' row)
    (hrow : ∀ g, row = some g → ∃ cs e m, w.heap[g]? = some (.cells cs e m) ∧ e ≠ 3) : OI w' b u l := by
  refine h.kept hg ?_
  rcases h.2 with ⟨rfl, _⟩ | ⟨g, cap, cur, rfl, _, hh, _⟩
  · exact .inl rfl
  · refine .inr fun e => ?_
    obtain ⟨cs, e', m, h1, h2⟩ := hrow g e.symm
    rw [hh] at h1
    injection h1 with h1
    injection h1 with _ h3
    exact h2 h3.symm
theorem FR.kept_type {w w' : World} {b : Nat} {x : Int ⊕ List Int} {u : Value} {row : Option Nat} (h : FR w b x u) (hg : w.grownBy w' row)
    (hrow : ∀ g, row = some g → ∃ cs e m, w.heap[g]? = some (.cells cs e m) ∧ e ≠ 3) : FR w' b x u := by
  cases x with
  | inl n => exact h
  | inr l => exact OI.kept_type h hg hrow
theorem FR.below {w w' : World} {b : Nat} {x : Int ⊕ List Int} {u : Value} (h : FR w b x u) (hb : Below w.heap.size w w') : FR w' b x u := by
  cases x with
  | inl n => exact h
  | inr l => exact OI.below h hb
theorem FR.mono {w : World} {b b' : Nat} {x : Int ⊕ List Int} {u : Value} (h : FR w b x u) (hb : b' ≤ b) : FR w b' x u := by
  cases x with
  | inl n => exact h
  | inr l => exact OI.mono h hb
theorem FR.lt {w : World} {b : Nat} {x : Int ⊕ List Int} {u : Value} (h : FR w b x u) : ∀ k, u.ownBlock = some k → b ≤ k ∧ k < w.heap.size := by
  cases x with
  | inl n => unfold FR at h; subst h; intro k hk; simp [Value.ownBlock] at hk
  | inr l => exact OI.lt h

section
variable {w w' : World} {b b' : Nat} {fs fs2 : List (Int ⊕ List Int)} {cells news : List Value}
theorem FRs.nil_ : FRs w b [] [] := ⟨rfl, fun j x u h => by simp at h⟩
theorem FRs.below (h : FRs w b fs cells) (hb : Below w.heap.size w w') : FRs w' b fs cells := ⟨h.1, fun j x u h1 h2 => (h.2 j x u h1 h2).below hb⟩
theorem FRs.kept_type {row : Option Nat} (h : FRs w b fs cells) (hg : w.grownBy w' row) (hrow : ∀ g, row = some g → ∃ cs e m, w.heap[g]? = some (.cells cs e m) ∧ e ≠ 3) : FRs w' b fs cells :=
  ⟨h.1, fun j x u h1 h2 => (h.2 j x u h1 h2).kept_type hg hrow⟩
theorem FRs.mono (h : FRs w b fs cells) (hb : b' ≤ b) : FRs w b' fs cells := ⟨h.1, fun j x u h1 h2 => (h.2 j x u h1 h2).mono hb⟩
theorem FRs.append (h : FRs w b fs cells) (h2 : FRs w b fs2 news) : FRs w b (fs ++ fs2) (cells ++ news) := by
  refine ⟨by simp [h.1, h2.1], fun j x u hx hu => ?_⟩
  rcases Nat.lt_or_ge j fs.length with hj | hj
  · rw [List.getElem?_append_left hj] at hx
    rw [List.getElem?_append_left (by rw [h.1]; exact hj)] at hu
    exact h.2 j x u hx hu
  · rw [List.getElem?_append_right hj] at hx
    rw [List.getElem?_append_right (by rw [h.1]; exact hj), h.1] at hu
    exact h2.2 _ x u hx hu
theorem FRs.at_ (h : FRs w b fs cells) {j : Nat} {x : Int ⊕ List Int} (hx : fs[j]? = some x) : ∃ u, cells[j]? = some u ∧ FR w b x u := by
  have hj := (List.getElem?_eq_some_iff.1 hx).1
  have hu : cells[j]? = some (cells[j]'(by rw [h.1]; exact hj)) := List.getElem?_eq_getElem _
  exact ⟨_, hu, h.2 j x _ hx hu⟩
theorem FRs.one (h : FRs w b fs cells) : ∀ u ∈ cells, u.oneCell' = true := by
  intro u hu
  obtain ⟨j, hj, e⟩ := List.getElem_of_mem hu
  have hx : fs[j]? = some (fs[j]'(by rw [← h.1]; exact hj)) := List.getElem?_eq_getElem _
  exact (h.2 j _ u hx (by rw [List.getElem?_eq_getElem hj, e])).one
theorem Dist.nil_ : Dist [] := fun i j u u' _ h => by simp at h
theorem Dist.append (h : Dist cells) (h2 : Dist news) (h3 : ∀ u ∈ cells, ∀ u' ∈ news, u.ownBlock = none ∨ u.ownBlock ≠ u'.ownBlock) : Dist (cells ++ news) := by
  intro i j u u' hij hu hu'
  rcases Nat.lt_or_ge j cells.length with hj | hj
  · rw [List.getElem?_append_left (by omega)] at hu
    rw [List.getElem?_append_left hj] at hu'
    exact h i j u u' hij hu hu'
  · rw [List.getElem?_append_right hj] at hu'
    rcases Nat.lt_or_ge i cells.length with hi | hi
    · rw [List.getElem?_append_left hi] at hu
      exact h3 u (List.mem_of_getElem? hu) u' (List.mem_of_getElem? hu')
    · rw [List.getElem?_append_right hi] at hu
      exact h2 _ _ u u' (by omega) hu hu'
/-- What was made later lies apart from what was there. -/
theorem FRs.apart (h : FRs w b fs cells) (h2 : FRs w' b' fs2 news) (hs : w.heap.size ≤ b') : ∀ u ∈ cells, ∀ u' ∈ news, u.ownBlock = none ∨ u.ownBlock ≠ u'.ownBlock := by
  intro u hu u' hu'
  obtain ⟨i, hi, e⟩ := List.getElem_of_mem hu
  obtain ⟨j, hj, e'⟩ := List.getElem_of_mem hu'
  have f1 := h.2 i _ u (List.getElem?_eq_getElem (by rw [← h.1]; exact hi)) (by rw [List.getElem?_eq_getElem hi, e])
  have f2 := h2.2 j _ u' (List.getElem?_eq_getElem (by rw [← h2.1]; exact hj)) (by rw [List.getElem?_eq_getElem hj, e'])
  rcases hk : u.ownBlock with _ | k
  · exact .inl rfl
  · refine .inr fun e => ?_
    have := (f1.lt k hk).2
    have := (f2.lt k e.symm).1
    omega
end

/-- The value is a slice of n elements of type e, of 'size' cells each, that the call owns from block 'base' on; its cells read as the fields fs, whose slices are owned from b on and share no block. -/
def OF (w : World) (base b : Nat) (e : TypeId) (size : Nat) (v : Value) (n : Nat) (fs : List (Int ⊕ List Int)) (cells : List Value) : Prop :=
  w.ownsRow base e size v n cells ∧ FRs w b fs cells ∧ Dist cells

section
variable {w w' : World} {base base' b b' size n : Nat} {e : TypeId} {v : Value} {fs : List (Int ⊕ List Int)} {cells : List Value}
theorem OF.nil_ (w : World) (base b : Nat) (e : TypeId) (size : Nat) : OF w base b e size (.slice none 0 0) 0 [] [] := ⟨World.ownsRow_nil _ _ _ _, FRs.nil_, Dist.nil_⟩
theorem OF.below (h : OF w base b e size v n fs cells) (hb : Below w.heap.size w w') : OF w' base b e size v n fs cells :=
  ⟨World.ownsRow.kept h.1 (row := none) ⟨hb.os, hb.tape, hb.output, hb.size, fun k hk _ => hb.block k hk⟩ (by cases hv : v.ownBlock <;> simp), h.2.1.below hb, h.2.2⟩
theorem OF.alloc (h : OF w base b e size v n fs cells) (o : Obj) : OF (w.alloc o) base b e size v n fs cells := h.below ((Below.refl _ _).alloc (Nat.le_refl _) o)
theorem OF.mono (h : OF w base b e size v n fs cells) (h1 : base' ≤ base) (h2 : b' ≤ b) : OF w base' b' e size v n fs cells := by
  refine ⟨⟨h.1.1, ?_⟩, h.2.1.mono h2, h.2.2⟩
  rcases h.1.2 with hn | ⟨g, cap, cur, rfl, hg, r⟩
  · exact .inl hn
  · exact .inr ⟨g, cap, cur, rfl, Nat.le_trans h1 hg, r⟩
theorem OF.lt (h : OF w base b e size v n fs cells) : ∀ k, v.ownBlock = some k → base ≤ k ∧ k < w.heap.size := World.ownsRow.lt h.1
theorem OF.typed (h : OF w base b e size v n fs cells) : ∀ g, v.ownBlock = some g → ∃ cs m, w.heap[g]? = some (.cells cs e m) := by
  intro g hg
  rcases h.1.2 with ⟨rfl, _⟩ | ⟨g', cap, cur, rfl, _, hh, _⟩
  · simp [Value.ownBlock] at hg
  · simp [Value.ownBlock] at hg
    subst hg
    exact ⟨_, _, hh⟩
theorem OF.typed' (h : OF w base b e size v n fs cells) (he : e ≠ 3) : ∀ g, v.ownBlock = some g → ∃ cs e m, w.heap[g]? = some (.cells cs e m) ∧ e ≠ 3 := by
  intro g hg
  obtain ⟨cs, m, hh⟩ := h.typed g hg
  exact ⟨cs, e, m, hh, he⟩
/-- What an owned row is, as the walk wants it. -/
theorem OF.form (h : OF w base b e size v n fs cells) : ∃ A c, v = .slice A n c ∧ n ≤ c ∧ c ≤ 9223372036854775807 ∧ (A = none → n = 0) ∧ cells.length = n * size ∧ fs.length = n * size ∧
    (0 < n → ∃ ad, A = some ad ∧ ∀ j u, cells[j]? = some u → w.cell? (ad.add j) = some u) := by
  have hl := h.1.1
  have hl2 : fs.length = n * size := by rw [← h.2.1.1, hl]
  rcases h.1.2 with ⟨rfl, rfl⟩ | ⟨g, cap, cur, rfl, hb, hg, hnc, hcm, hs, ht⟩
  · exact ⟨_, _, rfl, by simp, by simp, fun _ => rfl, hl, hl2, fun h => absurd h (by omega)⟩
  · exact ⟨_, _, rfl, hnc, by simpa [maxLen] using hcm, fun h => by (cases h), hl, hl2, fun _ => ⟨_, rfl, h.1.cells (g := g) rfl⟩⟩
end

/-- append of one element of 'size' cells, at a row of the call's own. -/
theorem run_appF {P : Program} {w : World} {base b : Nat} {t e : TypeId} {size bytes : Nat} {z : Value} {v : Value} {n : Nat} {fs fs2 : List (Int ⊕ List Int)} {cells news : List Value} (ty : TypeId)
    (ht : P.underlying t = some (.slice e)) (hinfo : (P.info? e).map (fun i => (i.zero, i.size, i.bytes)) = some (some z, size, bytes)) (hzs : z.cells.size = size) (hsz : 0 < size) (hbt : bytes ≤ 100) (he : e ≠ 3)
    (hown : OF w base b e size v n fs cells) (ad : Addr) (c : Nat) (hl : news.length = size) (hnews : ∀ j u, news[j]? = some u → w.cell? (ad.add j) = some u) (hfr : FRs w b fs2 news) (hd : Dist news)
    (hap : ∀ u ∈ cells, ∀ u' ∈ news, u.ownBlock = none ∨ u.ownBlock ≠ u'.ownBlock) (hlen : n + 1 ≤ 1000000000000) (hbase : base ≤ w.heap.size) :
    ∃ v' w', (Builtin.append_ #[t, t] ty #[v, .slice (some ad) 1 c]).run P w = .ok v' w' ∧ OF w' base b e size v' (n + 1) (fs ++ fs2) (cells ++ news) ∧ w.grownBy w' v.ownBlock ∧ (v'.ownBlock = v.ownBlock ∨ v'.ownBlock = some w.heap.size) := by
  obtain ⟨i0, hi, hz, hs1, hb⟩ := info_parts hinfo
  obtain ⟨v', w', hr, h2, h3, _, h5⟩ := run_append_own_at (P := P) w base t ty e i0 z size bytes ht hi hz hs1 hb hzs hsz v n cells hown.1 ad 1 c news (by omega) hnews hfr.one (by simp only [maxLen]; omega)
    (Nat.le_trans (Nat.mul_le_mul_left _ hbt) (by omega)) hbase
  exact ⟨v', w', hr, ⟨h2, (hown.2.1.append hfr).kept_type h3 (hown.typed' he), hown.2.2.append hd hap⟩, h3, h5⟩

theorem wpAppF {P : Program} {w : World} {ops : Array Oper} {rest : List Oper} {o : Oper} {a : Act} {Q : Exit → Act → World → Prop} (hgd : o.guard = none) (s x : Operand) (t e : TypeId)
    (ho : o.op = .call { callee := .builtin .append, args := #[s, x], argTypes := #[t, t] }) (size bytes : Nat) (z : Value)
    (ht : P.underlying t = some (.slice e)) (hinfo : (P.info? e).map (fun i => (i.zero, i.size, i.bytes)) = some (some z, size, bytes)) (hzs : z.cells.size = size) (hsz : 0 < size) (hbt : bytes ≤ 100) (he : e ≠ 3)
    (base b : Nat) (v : Value) (n : Nat) (fs fs2 : List (Int ⊕ List Int)) (cells news : List Value) (ad : Addr) (c : Nat) (hs : a.eval s = v) (hx : a.eval x = .slice (some ad) 1 c)
    (hown : OF w base b e size v n fs cells) (hl : news.length = size) (hnews : ∀ j u, news[j]? = some u → w.cell? (ad.add j) = some u) (hfr : FRs w b fs2 news) (hd : Dist news)
    (hap : ∀ u ∈ cells, ∀ u' ∈ news, u.ownBlock = none ∨ u.ownBlock ≠ u'.ownBlock) (hlen : n + 1 ≤ 1000000000000) (hbase : base ≤ w.heap.size)
    (h : ∀ v' w', OF w' base b e size v' (n + 1) (fs ++ fs2) (cells ++ news) → w.grownBy w' v.ownBlock → (v'.ownBlock = v.ownBlock ∨ v'.ownBlock = some w.heap.size) → wpList P ops Q rest (a.put o.dst v') w') :
    wpList P ops Q (o :: rest) a w := by
  refine wpList_plain hgd fun K hK => ?_
  obtain ⟨v', w', hr, h2, h3, h5⟩ := run_appF o.type ht hinfo hzs hsz hbt he hown ad c hl hnews hfr hd hap hlen hbase
  unfold Oper.wp execOp
  simp only [ho, resolve, invoke, builtin, Sem.run_bind, Sem.run_pure, Result.andThen_ok, List.map_toArray, List.map_cons, List.map_nil, hs, hx, hr]
  exact hK _ _ (h v' w' h2 h3 h5)

/-- A new block's cells. -/
theorem new_cells (w : World) (cs : List Value) (e : TypeId) : ∀ j u, cs[j]? = some u → (w.alloc (.cells cs.toArray e)).cell? ((⟨w.heap.size, 0, none⟩ : Addr).add j) = some u := by
  intro j u hu
  have hadd : (⟨w.heap.size, 0, none⟩ : Addr).add j = ⟨w.heap.size, j, none⟩ := by unfold Addr.add; split <;> simp_all
  rw [hadd, cell_of_row _ _ j _ _ (0, 0) (heap_alloc_new w _)]
  simpa using hu

theorem Dist.one (u : Value) : Dist [u] := by
  intro i j a a' hij h1 h2
  have := (List.getElem?_eq_some_iff.1 h2).1
  simp at this
  omega
theorem FRs.one_ {w : World} {b : Nat} {x : Int ⊕ List Int} {u : Value} (h : FR w b x u) : FRs w b [x] [u] := by
  refine ⟨rfl, fun j y a h1 h2 => ?_⟩
  have hj := (List.getElem?_eq_some_iff.1 h1).1
  simp at hj
  subst hj
  simp at h1 h2
  subst h1 h2
  exact h

/-! ### slices of slices of numbers -/
theorem Try.infoInts : (Try.prog.info? 26).map (fun i => (i.zero, i.size, i.bytes)) = some (some (.slice none 0 0), 1, 24) := by kernel_rfl
def rows (ls : List (List Int)) : List (Int ⊕ List Int) := ls.map .inr
theorem rows_at {ls : List (List Int)} {k : Nat} (h : k < ls.length) : (rows ls)[k]? = some (.inr (nthL ls k)) := by simp [rows, nthL, List.getD, h]
theorem rows_append (a b : List (List Int)) : rows (a ++ b) = rows a ++ rows b := by simp [rows]
theorem rows_len (a : List (List Int)) : (rows a).length = a.length := by simp [rows]

/-- The value is a slice of slices that the call owns; it reads as ls. -/
def OS (w : World) (base b : Nat) (v : Value) (ls : List (List Int)) (cells : List Value) : Prop := OF w base b 26 1 v ls.length (rows ls) cells

theorem OS.form {w : World} {base b : Nat} {v : Value} {ls : List (List Int)} {cells : List Value} (h : OS w base b v ls cells) : ∃ A n c, v = .slice A n c ∧ ls.length = n ∧ n ≤ c ∧ c ≤ 9223372036854775807 := by
  obtain ⟨A, c, hv, h1, h2, _⟩ := OF.form h
  exact ⟨A, ls.length, c, hv, rfl, h1, h2⟩
/-- The k-th element, in a world in which the row is still as it was. -/
theorem OS.cell {w : World} {base b : Nat} {A : Option Addr} {n c k : Nat} {ls : List (List Int)} {cells : List Value} (h : OS w base b (.slice A n c) ls cells) (hk : k < n) :
    ∃ ad A' n' c', A = some ad ∧ w.cell? (ad.add k) = some (.slice A' n' c') ∧ cells[k]? = some (.slice A' n' c') ∧ OI w b (.slice A' n' c') (nthL ls k) ∧ n' ≤ c' := by
  obtain ⟨A1, c1, hv, h1, h2, h3, h4, h5, h6⟩ := OF.form h
  injection hv with e1 e2 e3
  subst e1 e3
  rw [e2] at hk
  obtain ⟨ad, hA, hc⟩ := h6 (by omega)
  obtain ⟨u, hu, hf⟩ := h.2.1.at_ (rows_at hk)
  have hf' : OI w b u (nthL ls k) := hf
  obtain ⟨A', n', c', rfl, _, hcc, _⟩ := hf'.form
  exact ⟨ad, A', n', c', hA, hc _ _ hu, hu, hf', hcc⟩


theorem OS.below {w w' : World} {base b : Nat} {v : Value} {ls : List (List Int)} {cells : List Value} (h : OS w base b v ls cells) (hb : Below w.heap.size w w') : OS w' base b v ls cells := OF.below h hb
/-- 'append(out, x)' at [][]int: x is a slice of the call's own, apart from all that out holds. -/
theorem wpAppS {w0 : World} {ops : Array Oper} {rest : List Oper} {o : Oper} {a : Act} {Q : Exit → Act → World → Prop} (hgd : o.guard = none) (s x : Operand)
    (ho : o.op = .call { callee := .builtin .append, args := #[s, x], argTypes := #[58, 58] })
    (base b : Nat) (v : Value) (ls : List (List Int)) (cells : List Value) (u : Value) (l : List Int) (hs : a.eval s = v) (hx : a.eval x = .slice (some ⟨w0.heap.size, 0, none⟩) 1 1)
    (hown : OS w0 base b v ls cells) (hu : OI w0 b u l) (hap : ∀ u' ∈ cells, u'.ownBlock = none ∨ u'.ownBlock ≠ u.ownBlock) (hlen : ls.length + 1 ≤ 1000000000000) (hbase : base ≤ w0.heap.size)
    (h : ∀ v' w', OS w' base b v' (ls ++ [l]) (cells ++ [u]) → (w0.alloc (.cells #[u] 26)).grownBy w' v.ownBlock → (v'.ownBlock = v.ownBlock ∨ v'.ownBlock = some (w0.heap.size + 1)) → wpList Try.prog ops Q rest (a.put o.dst v') w') :
    wpList Try.prog ops Q (o :: rest) a (w0.alloc (.cells #[u] 26)) := by
  refine wpAppF hgd s x 58 26 ho 1 24 (.slice none 0 0) Try.underlying58 Try.infoInts rfl (by omega) (by omega) (by decide) base b v ls.length (rows ls) [.inr l] cells [u] ⟨w0.heap.size, 0, none⟩ 1 hs hx
    (OF.alloc hown _) rfl (new_cells w0 [u] _) (FRs.one_ (OI.alloc hu _)) (Dist.one u) ?_ hlen (by simp; omega) fun v' w' h2 h3 h5 => h v' w' ?_ h3 (by simpa using h5)
  · intro u' hu' u'' hu''
    simp at hu''
    subst hu''
    exact hap u' hu'
  · unfold OS
    rw [rows_append, List.length_append]
    exact h2

theorem grown_step {w wr w' : World} {row row' : Option Nat} (h : w.grownBy wr row) (h2 : wr.grownBy w' row') (hr : row' = row ∨ ∀ k, row' = some k → w.heap.size ≤ k) : w.grownBy w' row :=
  ⟨h2.os.trans h.os, h2.tape.trans h.tape, h2.output.trans h.output, Nat.le_trans h.size h2.size, fun k hk hne => (h2.block k (Nat.lt_of_lt_of_le hk h.size) (fun e => by
    rcases hr with hr | hr
    · exact hne (e.trans hr)
    · have := hr k e.symm; omega)).trans (h.block k hk hne)⟩
theorem grown_below {w wr w' : World} {row : Option Nat} (h : w.grownBy wr row) (h2 : Below wr.heap.size wr w') : w.grownBy w' row :=
  grown_step h (row' := none) ⟨h2.os, h2.tape, h2.output, h2.size, fun k hk _ => h2.block k hk⟩ (.inr fun k h => by cases h)
theorem grown_drewN {w wr : World} {row : Option Nat} (h : w.grownBy wr row) (n : Nat) : w.grownBy (wr.drewN n) row := ⟨h.os, h.tape, h.output, h.size, h.block⟩
theorem grown_alloc {w wr : World} {row : Option Nat} (h : w.grownBy wr row) (o : Obj) : w.grownBy (wr.alloc o) row := grown_below h ((Below.refl _ _).alloc (Nat.le_refl _) o)
/-- Where a slice lies that began as v0 in the world w. -/
def From (w : World) (v0 v : Value) : Prop := v.ownBlock = v0.ownBlock ∨ ∀ k, v.ownBlock = some k → w.heap.size ≤ k
theorem From.refl (w : World) (v : Value) : From w v v := .inl rfl
theorem From.next {w wr : World} {v0 v v' : Value} (h : From w v0 v) (hs : w.heap.size ≤ wr.heap.size) (h2 : v'.ownBlock = v.ownBlock ∨ ∀ k, v'.ownBlock = some k → wr.heap.size ≤ k) : From w v0 v' := by
  rcases h2 with h2 | h2
  · unfold From; rw [h2]; exact h
  · exact .inr fun k hk => Nat.le_trans hs (h2 k hk)
theorem From.app {w : World} {v0 v v' : Value} {n : Nat} (h : From w v0 v) (hs : w.heap.size ≤ n) (h2 : v'.ownBlock = v.ownBlock ∨ v'.ownBlock = some n) : From w v0 v' := by
  rcases h2 with h2 | h2
  · unfold From; rw [h2]; exact h
  · exact .inr fun k hk => by rw [h2] at hk; injection hk with hk; omega
/-- What was made from block H on lies apart from cells that lie below H. -/
theorem apart_new {w w' : World} {b H : Nat} {fs : List (Int ⊕ List Int)} {cells : List Value} {u : Value} {l : List Int} (h : FRs w b fs cells) (hs : w.heap.size ≤ H) (hu : OI w' H u l) : ∀ u' ∈ cells, u'.ownBlock = none ∨ u'.ownBlock ≠ u.ownBlock :=
  fun u' hu' => FRs.apart h (FRs.one_ (x := .inr l) hu) hs u' hu' u (by simp)

/-- An owned row is kept where another row is written. -/
theorem OF.kept {w w' : World} {base b size n : Nat} {e : TypeId} {v : Value} {fs : List (Int ⊕ List Int)} {cells : List Value} {row : Option Nat} (h : OF w base b e size v n fs cells) (hg : w.grownBy w' row)
    (hne : v.ownBlock = none ∨ v.ownBlock ≠ row) (hrow : ∀ g, row = some g → ∃ cs e m, w.heap[g]? = some (.cells cs e m) ∧ e ≠ 3) : OF w' base b e size v n fs cells :=
  ⟨World.ownsRow.kept h.1 hg hne, h.2.1.kept_type hg hrow, h.2.2⟩
theorem OF.apart {wa wb : World} {base base' b b' size size' n n' : Nat} {e e' : TypeId} {v v' : Value} {fs fs' : List (Int ⊕ List Int)} {cells cells' : List Value}
    (h1 : OF wa base b e size v n fs cells) (h2 : OF wb base' b' e' size' v' n' fs' cells') (h : wa.heap.size ≤ base') : v'.ownBlock = none ∨ v'.ownBlock ≠ v.ownBlock := by
  rcases h' : v'.ownBlock with _ | k
  · exact .inl rfl
  · refine .inr fun e => ?_
    have := (h2.lt k h').1
    have := (h1.lt k e.symm).2
    omega
theorem OS.lit (w : World) (base b : Nat) (ls : List (List Int)) (cells : List Value) (hb : base ≤ w.heap.size) (hf : FRs w b (rows ls) cells) (hd : Dist cells) (hl : ls.length ≤ 1000000000000) (n : Nat) (hn : n = ls.length) :
    OS (w.alloc (.cells cells.toArray 26)) base b (.slice (some ⟨w.heap.size, 0, none⟩) n n) ls cells := by
  subst hn
  have e : cells.length = ls.length := by rw [hf.1, rows_len]
  refine ⟨?_, hf.below ((Below.refl _ _).alloc (Nat.le_refl _) _), hd⟩
  have := World.ownsRow_lit (e := 26) (size := 1) (base := base) w cells.toArray ls.length hb (by simp only [maxLen]; omega) (by simp [e])
  simpa using this
/-- What a function leaves that returns a new slice of slices. -/
def MakesS (w : World) (ls : List (List Int)) : Ending → World → Prop := fun e w' =>
  ∃ A n c cells, e = .returned (.slice A n c) ∧ OS w' w.heap.size w.heap.size (.slice A n c) ls cells ∧ ls.length = n ∧ (n ≤ c ∧ c ≤ 9223372036854775807) ∧ Below w.heap.size w w'
theorem MakesS.of {w w' : World} {v : Value} {ls : List (List Int)} {cells : List Value} (h : OS w' w.heap.size w.heap.size v ls cells) (hb : Below w.heap.size w w') : MakesS w ls (.returned v) w' := by
  obtain ⟨A, n, c, rfl, h1, h2, h3⟩ := h.form
  exact ⟨A, n, c, cells, rfl, h, h1, ⟨h2, h3⟩, hb⟩
theorem map_take_succ {ls : List (List Int)} {f : List Int → List Int} {j : Nat} (h : j < ls.length) : (ls.take (j + 1)).map f = (ls.take j).map f ++ [f (nthL ls j)] := by
  rw [nthL_lt h, List.take_succ_eq_append_getElem h, List.map_append]; rfl

/-- An owned row is kept where only blocks below its own are written. -/
theorem OI.kept_low {w w' : World} {base : Nat} {v : Value} {l : List Int} {row : Option Nat} (h : OI w base v l) (hg : w.grownBy w' row) (hr : ∀ g, row = some g → g < base) : OI w' base v l := by
  refine h.kept hg ?_
  rcases h' : v.ownBlock with _ | k
  · exact .inl rfl
  · refine .inr fun e => ?_
    have := (h.lt k h').1
    have := hr k e.symm
    omega
theorem FR.kept_low {w w' : World} {b : Nat} {x : Int ⊕ List Int} {u : Value} {row : Option Nat} (h : FR w b x u) (hg : w.grownBy w' row) (hr : ∀ g, row = some g → g < b) : FR w' b x u := by
  cases x with
  | inl n => exact h
  | inr l => exact OI.kept_low h hg hr
theorem OF.kept_low {w w' : World} {base b size n : Nat} {e : TypeId} {v : Value} {fs : List (Int ⊕ List Int)} {cells : List Value} {row : Option Nat} (h : OF w base b e size v n fs cells) (hg : w.grownBy w' row)
    (hr : ∀ g, row = some g → g < base ∧ g < b) : OF w' base b e size v n fs cells := by
  refine ⟨World.ownsRow.kept h.1 hg ?_, ⟨h.2.1.1, fun j x u h1 h2 => (h.2.1.2 j x u h1 h2).kept_low hg fun g e => (hr g e).2⟩, h.2.2⟩
  rcases h' : v.ownBlock with _ | k
  · exact .inl rfl
  · refine .inr fun e => ?_
    have := (h.lt k h').1
    have := (hr k e.symm).1
    omega
end Go.Proofs.Yteodckkkjhapgaa
