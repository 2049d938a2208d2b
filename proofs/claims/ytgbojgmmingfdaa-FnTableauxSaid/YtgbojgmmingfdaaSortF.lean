/- slices.SortFunc at structs with fields: the row is owned, and is so again. -/
import Derived.Shelf.SlSortCmp.WholeK
import Derived.Shelf.SlSortCmp.NoneTotal
import Derived.Test.YtgbojgmmingfdaaIns
import Derived.Test.YtgbojgmmingfdaaWords
import Derived.Test.YtgbojgmmingfdaaProg
import Derived.Test.YtgbojgmmingfdaaTerms
namespace Go.Proofs.Ytgbojgmmingfdaa
open Go.RowKit

theorem Dist_pw {cells : List Value} : Dist cells ↔ cells.Pairwise (fun u u' => u.ownBlock = none ∨ u.ownBlock ≠ u'.ownBlock) := by
  rw [List.pairwise_iff_getElem]
  constructor
  · intro h i j hi hj hij
    exact h i j _ _ hij (List.getElem?_eq_getElem hi) (List.getElem?_eq_getElem hj)
  · intro h i j u u' hij h1 h2
    obtain ⟨hi, e1⟩ := List.getElem?_eq_some_iff.1 h1
    obtain ⟨hj, e2⟩ := List.getElem?_eq_some_iff.1 h2
    rw [← e1, ← e2]
    exact h i j hi hj hij
theorem Dist_perm {cells c2 : List Value} (h : Dist cells) (hp : cells.Perm c2) : Dist c2 := by
  refine Dist_pw.2 ((hp.pairwise_iff fun {a b} h => ?_).1 (Dist_pw.1 h))
  rcases h with h | h
  · rcases hb : b.ownBlock with _ | k
    · exact .inl rfl
    · exact .inr (by rw [h]; simp)
  · exact .inr fun e => h e.symm

/-- An element: its cells and what they hold. -/
structure El (w : World) (b k : Nat) (ok : List (Int ⊕ List Int) → Prop) where
  c : List Value
  f : List (Int ⊕ List Int)
  hc : FRs w b f c
  hl : c.length = k
  hp : ok f
theorem el_list {w : World} {b k : Nat} {ok : List (Int ⊕ List Int) → Prop} : ∀ (els : List (List (Int ⊕ List Int))) (cells : List Value), (∀ f ∈ els, f.length = k ∧ ok f) → FRs w b els.flatten cells →
    ∃ dl : List (El w b k ok), dl.map El.f = els ∧ (dl.map El.c).flatten = cells
  | [], cells, _, h => ⟨[], rfl, by have := h.1; simp at this; simp [this]⟩
  | f :: r, cells, hl, h => by
    obtain ⟨hf, hfo⟩ := hl f (by simp)
    have h1 := h.take k
    have h2 := h.drop k
    rw [List.flatten_cons, List.take_append_of_le_length (by omega), ← hf, List.take_length] at h1
    rw [List.flatten_cons, ← hf, List.drop_left] at h2
    obtain ⟨dl, e1, e2⟩ := el_list r (cells.drop f.length) (fun g hg => hl g (by simp [hg])) h2
    have hlen : (cells.take f.length).length = k := by rw [h1.1, hf]
    refine ⟨⟨_, f, h1, hlen, hfo⟩ :: dl, by simp [e1], ?_⟩
    rw [List.map_cons, List.flatten_cons, e2]
    exact List.take_append_drop _ _
theorem el_FRs {w : World} {b k : Nat} {ok : List (Int ⊕ List Int) → Prop} : ∀ (dl : List (El w b k ok)), FRs w b (dl.map El.f).flatten (dl.map El.c).flatten
  | [] => FRs.nil_
  | x :: r => by
    rw [List.map_cons, List.map_cons, List.flatten_cons, List.flatten_cons]
    exact x.hc.append (el_FRs r)
theorem el_len {w : World} {b k : Nat} {ok : List (Int ⊕ List Int) → Prop} : ∀ (dl : List (El w b k ok)), (dl.map El.c).flatten.length = dl.length * k
  | [] => by simp
  | x :: r => by
    rw [List.map_cons, List.flatten_cons, List.length_append, el_len r, x.hl, List.length_cons, Nat.add_mul]
    omega
theorem el_at {w : World} {b k : Nat} {ok : List (Int ⊕ List Int) → Prop} [Inhabited (El w b k ok)] : ∀ (dl : List (El w b k ok)) (t : Nat), t < dl.length * k → (dl.map El.c).flatten[t]? = some ((dl.toArray[t / k]!).c)[t % k]!
  | [], t, h => by simp at h
  | x :: r, t, h => by
    have hk : 0 < k := by rcases Nat.eq_zero_or_pos k with e | e; · subst e; simp at h
                          · exact e
    rw [List.map_cons, List.flatten_cons]
    by_cases h1 : t < k
    · rw [List.getElem?_append_left (by rw [x.hl]; exact h1), Nat.div_eq_of_lt h1, Nat.mod_eq_of_lt h1, List.getElem?_eq_getElem (by rw [x.hl]; exact h1)]
      simp [x.hl, h1]
    · obtain ⟨u, rfl⟩ : ∃ u, t = k + u := ⟨t - k, by omega⟩
      rw [List.getElem?_append_right (by rw [x.hl]; omega), x.hl, Nat.add_sub_cancel_left, el_at r u (by rw [List.length_cons, Nat.add_mul] at h; omega)]
      rw [show k + u = u + k by omega, Nat.add_div_right _ hk, Nat.add_mod_right]
      simp
theorem flat_list {w : World} {b k : Nat} {ok : List (Int ⊕ List Int) → Prop} [Inhabited (El w b k ok)] (dl : List (El w b k ok)) : (Go.Sort.flatK El.c k dl.toArray).toList = (dl.map El.c).flatten := by
  refine List.ext_getElem? fun t => ?_
  by_cases h : t < dl.length * k
  · rw [el_at dl t h]
    have h2 : t < (Go.Sort.flatK El.c k dl.toArray).size := by rw [Go.Sort.size_flatK]; simpa using h
    have h3 := Go.Sort.get_flatK El.c k dl.toArray t (by simpa using h)
    rw [getElem!_pos _ t h2] at h3
    rw [Array.getElem?_toList, Array.getElem?_eq_getElem h2, h3]
  · rw [List.getElem?_eq_none (by rw [Array.length_toList, Go.Sort.size_flatK]; simpa using h), List.getElem?_eq_none (by rw [el_len]; omega)]
/-- The world that the sort leaves, block by block. -/
theorem sortW_heap {α : Type} [Inhabited α] {enc : α → List Value} {k g n : Nat} {w : World} {d : Array α} {os : Array Obj} {T : TypeId} {cur : Array Value} (hg : w.heap[g]? = some (.cells cur T (0, 0))) :
    w.grownBy (sortWorldK enc k w g 0 n d os) (some g) ∧ (sortWorldK enc k w g 0 n d os).heap[g]? = some (.cells (Go.Sort.putCells id 0 (Go.Sort.flatK enc k d) cur) T (0, 0)) := by
  have hlt : g < w.heap.size := by
    by_cases h : g < w.heap.size
    · exact h
    · rw [Array.getElem?_eq_none (by omega)] at hg; cases hg
  have e : ∀ j, j < w.heap.size → (sortWorldK enc k w g 0 n d os).heap[j]? = (w.heap.modify g (Go.Sort.onCells (Go.Sort.putCells id 0 (Go.Sort.flatK enc k d))))[j]? := fun j hj => by
    show ((w.heap.modify g _) ++ os)[j]? = _
    rw [Array.getElem?_append_left (by simpa using hj)]
  refine ⟨⟨rfl, rfl, rfl, ?_, fun j hj hne => ?_⟩, ?_⟩
  · show _ ≤ ((w.heap.modify g _) ++ os).size
    simp
  · rw [e j hj, Array.getElem?_modify, if_neg (fun h => hne (by rw [h]))]
  · rw [e g hlt, Array.getElem?_modify, if_pos rfl, hg]
    rfl
theorem putCells_take {F cur : Array Value} (h : F.size ≤ cur.size) : (Go.Sort.putCells id 0 F cur).toList.take F.size = F.toList ∧ (Go.Sort.putCells id 0 F cur).size = cur.size := by
  refine ⟨List.ext_getElem? fun t => ?_, by simp [Go.Sort.putCells]⟩
  rw [List.getElem?_take]
  by_cases ht : t < F.size
  · rw [if_pos ht, Array.getElem?_toList, Array.getElem?_toList]
    have : t < (Go.Sort.putCells id 0 F cur).size := by simp [Go.Sort.putCells]; omega
    rw [Array.getElem?_eq_getElem this, Array.getElem?_eq_getElem ht]
    simp [Go.Sort.putCells, ht]
  · rw [if_neg ht, List.getElem?_eq_none (by simpa using Nat.le_of_not_lt ht)]
/-- What SortFunc leaves of a row of fields. -/
def Sorts (w : World) (base b : Nat) (T : TypeId) (k : Nat) (v : Value) (els : List (List (Int ⊕ List Int))) (lt : List (Int ⊕ List Int) → List (Int ⊕ List Int) → Bool) : Ending → World → Prop := fun e w' =>
  e = .returned (.tuple #[]) ∧ ∃ (els' : List (List (Int ⊕ List Int))) (cells' : List Value), els'.Perm els ∧ els'.Pairwise (fun x y => lt y x = false) ∧ OF w' base b T k v els'.length els'.flatten cells' ∧ w.grownBy w' v.ownBlock

theorem sortF_any {P : Program} {ρ : Go.Shelf.Ren} (L : Go.Proofs.SlLaysF0.n6 P ρ) {w : World} {base b N c k : Nat} {A : Option Addr} {T : TypeId} {els : List (List (Int ⊕ List Int))} {cells : List Value} (cf : List (Int ⊕ List Int) → List (Int ⊕ List Int) → Int) (g : Nat) (ok : List (Int ⊕ List Int) → Prop)
    (hT : T ≠ 3) (hagg : ∀ w, (isAgg (ρ.t 24)).run P w = .ok true w) (hsz : ∀ w, (Go.sizeOf (ρ.t 24)).run P w = .ok k w) (hirr : ∀ x, ok x → ¬ cf x x < 0) (htr : ∀ x y z, ok x → ok y → ok z → cf x y < 0 → cf y z < 0 → cf x z < 0) (hnt : ∀ x y z, ok x → ok y → ok z → ¬ cf x y < 0 → ¬ cf y z < 0 → ¬ cf x z < 0)
    (h0 : ∃ f0 c0, FRs w b f0 c0 ∧ c0.length = k ∧ ok f0)
    (eg : ∀ args w, (callFunc g args).run P w = .ok (.enter g args) w) (hl : ∀ f ∈ els, f.length = k ∧ ok f) (h : OF w base b T k (.slice A N c) els.length els.flatten cells) (hN : N ≤ 1000000000000)
    (hcmp : ∀ (W : World) (f1 f2 : List (Int ⊕ List Int)) (c1 c2 : List Value), FRs W b f1 c1 → FRs W b f2 c2 → ok f1 → ok f2 → c1.length = k → c2.length = k → Calls P g #[.agg c1.toArray, .agg c2.toArray] W fun e w' => e = .returned (.int .i64 (cf f1 f2)) ∧ ∃ q os', w' = Go.Sort.grow (W.drewN q) os') :
    Calls P (ρ.f 6) #[.slice A N c, .func (.func g) #[] #[]] w (Sorts w base b T k (.slice A N c) els (fun x y => decide (cf x y < 0))) := by
  obtain ⟨f0, c0, h01, h02, h03⟩ := h0
  haveI : Inhabited (El w b k ok) := ⟨⟨c0, f0, h01, h02, h03⟩⟩
  obtain ⟨A', c', hv, hnc, hcm, hA, hcl, -⟩ := OF.form h
  obtain ⟨rfl, hNe, rfl⟩ := slice_inj hv
  subst hNe
  rcases Nat.eq_zero_or_pos els.length with hz | hpos
  · -- nothing to sort
    have hels : els = [] := List.length_eq_zero_iff.1 hz
    subst hels
    refine (AnyF.slices_SortFunc_none (P := P) (ρ := ρ) { L with } A c _ w).mono ?_
    rintro e w' ⟨rfl, rfl⟩
    exact ⟨rfl, [], cells, List.Perm.refl _, List.Pairwise.nil, h, World.grownBy.refl _ _⟩
  obtain ⟨g', cur, rfl, hgb, hgh, hcs, hct⟩ : ∃ g' cur, A = some ⟨g', 0, none⟩ ∧ base ≤ g' ∧ w.heap[g']? = some (.cells cur T (0, 0)) ∧ cur.size = c * k ∧ cur.toList.take (els.length * k) = cells := by
    rcases h.1.2 with ⟨he, hz⟩ | ⟨g', cap, cur, he, hb', hg', _, _, hs, ht⟩
    · omega
    · obtain ⟨e1, _, e3⟩ := slice_inj he
      subst e3
      exact ⟨g', cur, e1, hb', hg', hs, ht⟩
  have hlt : g' < w.heap.size := by
    by_cases hh : g' < w.heap.size
    · exact hh
    · rw [Array.getElem?_eq_none (by omega)] at hgh; cases hgh
  obtain ⟨dl, e1, e2⟩ := el_list (w := w) (b := b) (k := k) (ok := ok) els cells hl h.2.1
  have hdl : dl.length = els.length := by rw [← e1, List.length_map]
  have hNk : els.length * k ≤ c * k := Nat.mul_le_mul_right _ hnc
  have bk : BK w g' T cur.toList := by unfold BK; rw [hgh]
  have hH : Go.Sort.HoldsK El.c k w g' 0 dl.toArray := by
    intro j hj
    have hj2 : j < dl.length * k := by rw [Go.Sort.size_flatK] at hj; simpa using hj
    have e3 := flat_list dl
    have e4 : (Go.Sort.flatK El.c k dl.toArray)[j]? = cells[j]? := by rw [← Array.getElem?_toList, e3, e2]
    rw [Array.getElem?_eq_getElem hj] at e4
    refine ⟨?_, ?_⟩
    · rw [Nat.zero_add, getElem!_pos _ j hj]
      refine bk.cell ?_
      have : cells[j]? = cur.toList[j]? := by rw [← hct, List.getElem?_take, if_pos (by rw [← hdl]; exact hj2)]
      rw [← this, ← e4]
      rfl
    · rw [Nat.zero_add]
      exact bk.frozen
  have hswo : Go.Sort.SWO (ltOf fun x y : El w b k ok => cf x.f y.f) := by
    refine ⟨fun x => ?_, fun x y z h1 h2 => ?_, fun x y z h1 h2 => ?_⟩
    · exact decide_eq_false (hirr _ x.hp)
    · exact decide_eq_true (htr _ _ _ x.hp y.hp z.hp (of_decide_eq_true h1) (of_decide_eq_true h2))
    · exact decide_eq_false (hnt _ _ _ x.hp y.hp z.hp (of_decide_eq_false h1) (of_decide_eq_false h2))
  have hlay : CmpLays P g #[] (El.c (w := w) (b := b) (k := k) (ok := ok)) k (fun x y => cf x.f y.f) g' 0 dl.toArray.size w := fun m os dk hdk x y => by
    obtain ⟨gr, -⟩ := sortW_heap (enc := El.c (w := w) (b := b) (k := k) (ok := ok)) (k := k) (n := m) (d := dk) (os := os) hgh
    have ht : ∀ gg, some g' = some gg → ∃ cs e m, w.heap[gg]? = some (.cells cs e m) ∧ e ≠ 3 := fun gg e => by
      injection e with e
      subst e
      exact ⟨_, _, _, hgh, hT⟩
    exact hcmp _ x.f y.f x.c y.c (x.hc.kept_type gr ht) (y.hc.kept_type gr ht) x.hp y.hp x.hl y.hl
  have hcall := AnyQ.slices_SortFunc (P := P) (ρ := ρ) L k hagg hsz (El.c (w := w) (b := b) (k := k) (ok := ok)) (fun x => x.hl) (fun x v hv => x.hc.one v hv) (fun x y => cf x.f y.f) hswo g #[] g' 0 c dl.toArray w eg hlay hH hlt (by simp; omega)
  have hsize : dl.toArray.size = els.length := by simpa using hdl
  rw [hsize] at hcall
  refine hcall.mono ?_
  rintro e w' ⟨rfl, d', n, os, hp, hs, rfl⟩
  obtain ⟨gr, hg2⟩ := sortW_heap (enc := El.c (w := w) (b := b) (k := k) (ok := ok)) (k := k) (n := n) (d := d') (os := os) hgh
  obtain ⟨p1, -, p3⟩ := hp
  have hd' : d'.size = els.length := by rw [p1, hsize]
  have p4 : d'.toList.Perm dl := by
    have a1 : (d'.extract 0 els.length).toList = d'.toList := by rw [← hd']; simp
    have a2 : (dl.toArray.extract 0 els.length).toList = dl := by rw [← hdl]; simp
    rwa [a1, a2] at p3
  have hfl := flat_list d'.toList
  rw [Array.toArray_toList] at hfl
  have hFs : (Go.Sort.flatK (El.c (w := w) (b := b) (k := k) (ok := ok)) k d').size = els.length * k := by rw [Go.Sort.size_flatK, hd']
  obtain ⟨t1, t2⟩ := putCells_take (F := Go.Sort.flatK (El.c (w := w) (b := b) (k := k) (ok := ok)) k d') (cur := cur) (by rw [hFs, hcs]; exact hNk)
  have hlen' : (d'.toList.map El.f).length = els.length := by simp [hd']
  refine ⟨rfl, d'.toList.map El.f, (d'.toList.map El.c).flatten, ?_, ?_, ⟨⟨?_, .inr ⟨g', c, _, ?_, hgb, hg2, ?_, by simpa [maxLen] using hcm, ?_, ?_⟩⟩, ?_, ?_⟩, gr⟩
  · rw [← e1]; exact p4.map _
  · rw [List.pairwise_map, List.pairwise_iff_getElem]
    intro i j hi hj hij
    have := hs i j (Nat.zero_le _) hij (by rw [← hd']; simpa using hj)
    rw [getElem!_pos d' i (by simpa using hi), getElem!_pos d' j (by simpa using hj)] at this
    simpa [ltOf] using this
  · rw [hlen', el_len, Array.length_toList, hd']
  · rw [hlen']
  · rw [hlen']; exact hnc
  · rw [t2, hcs]
  · rw [hlen', ← hfl, ← t1, hFs]
  · refine (el_FRs d'.toList).kept_type gr fun gg e => ?_
    injection e with e
    subst e
    exact ⟨_, _, _, hgh, hT⟩
  · refine Dist_perm h.2.2 ?_
    rw [← e2]
    exact ((p4.map El.c).flatten).symm
end Go.Proofs.Ytgbojgmmingfdaa

/- slices.SortFunc at []Term of this seat: laid by the kit's tools lay-shelf.mjs and lay-plain.mjs (seat r5 only: the numbers are this translation's). -/
namespace Go.Proofs
open Go.Shelf
def Try.sortTm_ren : Go.Shelf.Ren := ⟨fun | 6 => 135 | 15 => 184 | 14 => 183 | 28 => 205 | 29 => 206 | 20 => 197 | 21 => 198 | 22 => 199 | 23 => 200 | 24 => 201 | 25 => 202 | 26 => 203 | 27 => 204 | 46 => 208 | 47 => 209 | 48 => 210 | 49 => 211 | 50 => 212 | 57 => 213 | n => n, fun | 22 => 23 | 24 => 81 | 25 => 129 | 3 => 3 | 39 => 133 | 0 => 0 | 53 => 172 | 55 => 174 | 4 => 4 | 46 => 166 | 45 => 165 | 50 => 91 | 5 => 5 | 9 => 9 | 66 => 176 | 70 => 180 | 76 => 182 | 77 => 109 | n => n, fun | n => n⟩
theorem Try.sortTm : Go.Proofs.SlLaysF0.n6 Try.prog Try.sortTm_ren := {
  mixed := by kernel_rfl
  f6 := ⟨Try.f135.name, by decide, Try.func135.trans (congrArg some (by kernel_rfl))⟩
  f14 := ⟨Try.f183.name, by decide, Try.func183.trans (congrArg some (by kernel_rfl))⟩
  f15 := Try.func184.trans (congrArg some (by kernel_rfl))
  f20 := ⟨Try.f197.name, by decide, Try.func197.trans (congrArg some (by kernel_rfl))⟩
  f21 := ⟨Try.f198.name, by decide, Try.func198.trans (congrArg some (by kernel_rfl))⟩
  f22 := ⟨Try.f199.name, by decide, Try.func199.trans (congrArg some (by kernel_rfl))⟩
  f23 := ⟨Try.f200.name, by decide, Try.func200.trans (congrArg some (by kernel_rfl))⟩
  f24 := ⟨Try.f201.name, by decide, Try.func201.trans (congrArg some (by kernel_rfl))⟩
  f25 := ⟨Try.f202.name, by decide, Try.func202.trans (congrArg some (by kernel_rfl))⟩
  f26 := ⟨Try.f203.name, by decide, Try.func203.trans (congrArg some (by kernel_rfl))⟩
  f27 := ⟨Try.f204.name, by decide, Try.func204.trans (congrArg some (by kernel_rfl))⟩
  f28 := Try.func205.trans (congrArg some (by kernel_rfl))
  f29 := Try.func206.trans (congrArg some (by kernel_rfl))
  f46 := ⟨Try.f208.name, by decide, Try.func208.trans (congrArg some (by kernel_rfl))⟩
  f47 := Try.func209.trans (congrArg some (by kernel_rfl))
  f48 := Try.func210.trans (congrArg some (by kernel_rfl))
  f49 := ⟨Try.f211.name, by decide, Try.func211.trans (congrArg some (by kernel_rfl))⟩
  f50 := ⟨Try.f212.name, by decide, Try.func212.trans (congrArg some (by kernel_rfl))⟩
  f57 := ⟨Try.f213.name, by decide, Try.func213.trans (congrArg some (by kernel_rfl))⟩
  t0 := Try.underlying0
  a0 := Try.isAgg0
  z0 := Try.sizeOf0
  v0 := Try.zeroValue0
  t3 := Try.underlying3
  a3 := Try.isAgg3
  z3 := Try.sizeOf3
  v3 := Try.zeroValue3
  t4 := Try.underlying4
  a4 := Try.isAgg4
  z4 := Try.sizeOf4
  v4 := Try.zeroValue4
  t5 := Try.underlying5
  a5 := Try.isAgg5
  z5 := Try.sizeOf5
  v5 := Try.zeroValue5
  t9 := Try.underlying9
  a9 := Try.isAgg9
  z9 := Try.sizeOf9
  v9 := Try.zeroValue9
  t22 := Try.underlying23
  a22 := Try.isAgg23
  z22 := Try.sizeOf23
  v22 := Try.zeroValue23
  t25 := Try.underlying129
  a25 := Try.isAgg129
  z25 := Try.sizeOf129
  v25 := Try.zeroValue129
  t39 := Try.underlying133
  a39 := Try.isAgg133
  z39 := Try.sizeOf133
  v39 := Try.zeroValue133
  t45 := Try.underlying165
  a45 := Try.isAgg165
  z45 := Try.sizeOf165
  v45 := Try.zeroValue165
  t46 := Try.underlying166
  a46 := Try.isAgg166
  z46 := Try.sizeOf166
  v46 := Try.zeroValue166
  t50 := Try.underlying91
  a50 := Try.isAgg91
  z50 := Try.sizeOf91
  v50 := Try.zeroValue91
  t53 := Try.underlying172
  a53 := Try.isAgg172
  z53 := Try.sizeOf172
  v53 := Try.zeroValue172
  t55 := Try.underlying174
  a55 := Try.isAgg174
  z55 := Try.sizeOf174
  v55 := Try.zeroValue174
  t66 := Try.underlying176
  a66 := Try.isAgg176
  z66 := Try.sizeOf176
  v66 := Try.zeroValue176
  t70 := Try.underlying180
  a70 := Try.isAgg180
  z70 := Try.sizeOf180
  v70 := Try.zeroValue180
  t76 := Try.underlying182
  a76 := Try.isAgg182
  z76 := Try.sizeOf182
  v76 := Try.zeroValue182
  t77 := Try.underlying109
  a77 := Try.isAgg109
  z77 := Try.sizeOf109
  v77 := Try.zeroValue109 }
end Go.Proofs

/- slices.SortFunc at terms, by byTerms. -/
namespace Go.Proofs.Ytgbojgmmingfdaa
open Go.RowKit

/-- The fields of one term. -/
def tE (p : List Int × Int) : List (Int ⊕ List Int) := [.inr p.1, .inl p.2]
/-- The exponents among the fields. -/
def exF : List (Int ⊕ List Int) → List Int
  | [.inr r, _] => r
  | _ => []
def cfT (x y : List (Int ⊕ List Int)) : Int := byT (exF x) (exF y)
theorem term_form {w : World} {b : Nat} {p : List Int × Int} {c : List Value} (h : FRs w b (tE p) c) : ∃ A n k, c = [.slice A n k, .int .i64 p.2] ∧ OI w b (.slice A n k) p.1 := by
  have hl := h.1
  obtain ⟨u0, h0, f0⟩ := h.at_ (j := 0) (x := .inr p.1) rfl
  obtain ⟨u1, h1, f1⟩ := h.at_ (j := 1) (x := .inl p.2) rfl
  have f0' : OI w b u0 p.1 := f0
  have f1' : u1 = .int .i64 p.2 := f1
  obtain ⟨A, n, k, rfl, -⟩ := f0'.form
  refine ⟨A, n, k, ?_, f0'⟩
  subst f1'
  refine List.ext_getElem? fun j => ?_
  have hj : j = 0 ∨ j = 1 ∨ 2 ≤ j := by omega
  rcases hj with rfl | rfl | hj
  · exact h0
  · exact h1
  · rw [List.getElem?_eq_none (by rw [hl]; simpa [tE] using hj), List.getElem?_eq_none (by simpa using hj)]

/-- The exponents of a term that can be compared. -/
def Ex7B (e : List Int) : Prop := e.length = 7 ∧ ∀ j, j < 7 → -1000000000 ≤ nth e j ∧ nth e j ≤ 1000000000
set_option maxHeartbeats 1000000 in
/-- The closure that closed sorts by. -/
theorem cmpTm_any {A C : Option Addr} {x y : List Int} {W : World} (p q : Int) (c d : Nat) (h1 : RI W A 7 x) (h2 : RI W C 7 y) (hx : Ex7B x) (hy : Ex7B y) :
    Calls Try.prog 136 #[.agg #[.slice A 7 c, .int .i64 p], .agg #[.slice C 7 d, .int .i64 q]] W
      (fun e w' => e = .returned (.int .i64 (byT x y)) ∧ ∃ q os', w' = Go.Sort.grow (W.drewN q) os') := by
  have HE : Hid (∀ W', Below W.heap.size W W' → Calls Try.prog 137 #[.slice A 7 c, .slice C 7 d] W' (Gives W' (.int .i64 (byT x y)))) := fun W' b => byT_any _ _ (h1.below b) (h2.below b) fun j hj => by
    have a1 := hx.2 j hj
    have a2 := hy.2 j hj
    omega
  clear h1 h2 hx hy
  generalize byT x y = r at HE ⊢
  go_enter Try.func136, Try.ntmps136
  go_wp2_with (go_at_call 137; (with_reducible refine (HE.out _ ?_).mono ?_); (exact ((Below.refl _ _).alloc (Nat.le_refl _) _).alloc (by simp) _); rintro e w' ⟨rfl, q, rfl⟩)
  go_ret
  exact ⟨rfl, q, _, by rw [Go.Sort.alloc_eq_grow, Go.Sort.alloc_eq_grow, Go.Sort.grow_grow]; rfl⟩
end Go.Proofs.Ytgbojgmmingfdaa

/- slices.SortFunc at terms. -/
namespace Go.Proofs.Ytgbojgmmingfdaa
open Go.RowKit

theorem ent_tm {P : Program} {f : FuncId} {fn : Func} {c : Code} (hf : P.funcs[f]? = some fn) (hname : (fn.name == "runtime.NumGoroutine") = false) (hb : fn.body = some c) (args : Array Value) (w : World) :
    (callFunc f args).run P w = .ok (.enter f args) w := by
  have h1 : fn.name ≠ "runtime.NumGoroutine" := by simpa using hname
  simp [callFunc, hf, h1, hb]
def tF (ps : List (List Int × Int)) : List (Int ⊕ List Int) := (ps.map tE).flatten
/-- The term of its fields. -/
def unE : List (Int ⊕ List Int) → List Int × Int
  | [.inr r, .inl c] => (r, c)
  | _ => ([], 0)
theorem un_tE (p : List Int × Int) : unE (tE p) = p := rfl
theorem tF_len (ps : List (List Int × Int)) : (tF ps).length = ps.length * 2 := by
  induction ps with
  | nil => rfl
  | cons x r ih =>
    have : tF (x :: r) = tE x ++ tF r := rfl
    rw [this, List.length_append, ih, List.length_cons]
    show 2 + _ = _
    omega
/-- The value is a slice of terms that the call owns. -/
def OT (w : World) (base b : Nat) (v : Value) (ps : List (List Int × Int)) (cells : List Value) : Prop := OF w base b 81 2 v ps.length (tF ps) cells
theorem sortT_any {w : World} {base b N c : Nat} {A : Option Addr} {qs : List (List Int × Int)} {cells : List Value} (hq : ∀ x ∈ qs, Ex7B x.1) (h : OT w base b (.slice A N c) qs cells) (hN : N ≤ 1000000000000) :
    Calls Try.prog 135 #[.slice A N c, .func (.func 136) #[] #[]] w (fun e w' => e = .returned (.tuple #[]) ∧ ∃ ps cells', ps.Perm qs ∧ ps.Pairwise (fun x y => ¬ byT y.1 x.1 < 0) ∧ OT w' base b (.slice A N c) ps cells' ∧ w.grownBy w' (Value.ownBlock (.slice A N c))) := by
  rcases qs with _ | ⟨x, qs⟩
  · have hN0 : N = 0 := by
      obtain ⟨A', c', hv, -⟩ := OF.form h
      exact (slice_inj hv).2.1
    subst hN0
    have hcall := AnyF.slices_SortFunc_none (P := Try.prog) (ρ := Try.sortTm_ren) { Try.sortTm with } A c (.func (.func 136) #[] #[]) w
    change Calls Try.prog 135 _ _ _ at hcall
    refine hcall.mono ?_
    rintro e w' ⟨rfl, rfl⟩
    exact ⟨rfl, [], cells, List.Perm.refl _, List.Pairwise.nil, h, World.grownBy.refl _ _⟩
  have h' : OF w base b 81 2 (.slice A N c) ((x :: qs).map tE).length ((x :: qs).map tE).flatten cells := by rw [List.length_map]; exact h
  have hcall := sortF_any (T := 81) Try.sortTm cfT 136 (fun f => ∃ p, Ex7B p.1 ∧ f = tE p) (by decide) Try.isAgg81 Try.sizeOf81
    (fun a _ => by rw [cfT, byT, byFrom_irr]; omega) (fun a b c _ _ _ h1 h2 => byFrom_trans 7 h1 h2)
    (fun a b c _ _ _ h1 h2 h3 => by
      rcases byFrom_total (a := exF a) (b := exF b) 7 with e | e | e
      · exact h1 e
      · have hs := byFrom_same 7 e
        refine h2 ?_
        rw [cfT, byT] at h3 ⊢
        rw [← byFrom_cong 7 hs]
        exact h3
      · exact h2 (byFrom_trans 7 e h3))
    ⟨tE x, cells.take 2, by have h0 := h.2.1.take 2; exact h0, by rw [List.length_take, h.2.1.1, tF_len, List.length_cons]; omega, x, hq x (by simp), rfl⟩
    (ent_tm Try.func136 (by kernel_rfl) rfl) (fun f hf => by obtain ⟨p, hp, rfl⟩ := List.mem_map.1 hf; exact ⟨rfl, p, hq p hp, rfl⟩) h' hN
    (fun W f1 f2 c1 c2 hf1 hf2 ho1 ho2 _ _ => by
      obtain ⟨p, hp, rfl⟩ := ho1
      obtain ⟨q, hq, rfl⟩ := ho2
      obtain ⟨A1, n1, k1, rfl, r1⟩ := term_form hf1
      obtain ⟨C1, m1, d1, rfl, s1⟩ := term_form hf2
      obtain rfl : n1 = 7 := r1.ri.1.symm.trans hp.1
      obtain rfl : m1 = 7 := s1.ri.1.symm.trans hq.1
      exact cmpTm_any _ _ _ _ r1.ri s1.ri hp hq)
  change Calls Try.prog 135 _ _ _ at hcall
  refine hcall.mono ?_
  rintro e w' ⟨rfl, els', cells', hp', hw', ho', gr⟩
  have he : els' = (els'.map unE).map tE := by
    rw [List.map_map]
    refine (List.map_id _).symm.trans (List.map_congr_left fun f hf => ?_)
    obtain ⟨p, -, rfl⟩ := List.mem_map.1 (hp'.mem_iff.1 hf)
    rfl
  refine ⟨rfl, els'.map unE, cells', ?_, ?_, ?_, gr⟩
  · have := hp'.map unE
    rw [List.map_map] at this
    exact this.trans (by rw [show (unE ∘ tE) = id from rfl, List.map_id])
  · rw [List.pairwise_map]
    refine hw'.imp_of_mem fun {x y} hx hy hxy => ?_
    obtain ⟨p, -, rfl⟩ := List.mem_map.1 (hp'.mem_iff.1 hx)
    obtain ⟨q, -, rfl⟩ := List.mem_map.1 (hp'.mem_iff.1 hy)
    exact of_decide_eq_false hxy
  · unfold OT tF
    rw [← he, List.length_map]
    exact ho'
end Go.Proofs.Ytgbojgmmingfdaa
