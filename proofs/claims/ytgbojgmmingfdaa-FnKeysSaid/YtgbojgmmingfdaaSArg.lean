/- What turns where a closure gathers: nothing but some blocks. -/
import Derived.Test.YtgbojgmmingfdaaWords
namespace Go.Proofs.Ytgbojgmmingfdaa
open Go.RowKit

/-- Nothing but the blocks of O has turned. -/
structure Kept (O : Nat → Prop) (w w' : World) : Prop where
  os : w'.os = w.os
  tape : w'.tape = w.tape
  output : w'.output = w.output
  size : w.heap.size ≤ w'.heap.size
  block : ∀ k, k < w.heap.size → ¬ O k → w'.heap[k]? = w.heap[k]?
section
variable {O O1 : Nat → Prop} {w w1 w2 : World}
theorem Kept.refl (O : Nat → Prop) (w : World) : Kept O w w := ⟨rfl, rfl, rfl, Nat.le_refl _, fun _ _ _ => rfl⟩
theorem Kept.of_below (h : Below w.heap.size w w1) : Kept O w w1 := ⟨h.os, h.tape, h.output, h.size, fun k hk _ => h.block k hk⟩
theorem Kept.trans (h : Kept O w w1) (hO : ∀ k, O1 k → O k ∨ w.heap.size ≤ k) (h2 : Kept O1 w1 w2) : Kept O w w2 :=
  ⟨h2.os.trans h.os, h2.tape.trans h.tape, h2.output.trans h.output, Nat.le_trans h.size h2.size, fun k hk hn =>
    (h2.block k (Nat.lt_of_lt_of_le hk h.size) fun h1 => (hO k h1).elim hn fun h3 => by omega).trans (h.block k hk hn)⟩
theorem Kept.mono (h : Kept O w w1) (hO : ∀ k, O k → O1 k) : Kept O1 w w1 := ⟨h.os, h.tape, h.output, h.size, fun k hk hn => h.block k hk fun h1 => hn (hO k h1)⟩
theorem Kept.store {g : Nat} (h : Kept O w w1) (hg : O g ∨ w.heap.size ≤ g) (j : Nat) (u : Value) : Kept O w (w1.setCell ⟨g, j, none⟩ u) :=
  ⟨h.os, h.tape, h.output, by simpa [World.setCell] using h.size, fun k hk hn => (Below.heap_setCell _ _ _ _ (by
    simp only
    intro e
    subst e
    rcases hg with h1 | h1
    · exact hn h1
    · omega)).trans (h.block k hk hn)⟩
theorem Kept.drewN (h : Kept O w w1) (n : Nat) : Kept O w (w1.drewN n) := ⟨h.os, h.tape, h.output, h.size, h.block⟩
theorem Kept.low {B : Nat} (h : Kept O w w1) (hO : ∀ k, O k → B ≤ k) (hB : B ≤ w.heap.size) : Below B w w1 :=
  ⟨h.os, h.tape, h.output, h.size, fun k hk => h.block k (by omega) fun h1 => by have := hO k h1; omega⟩
end
theorem cell_same {w w' : World} {a : Addr} (e : w'.heap[a.block]? = w.heap[a.block]?) : w'.cell? a = w.cell? a := by simp only [World.cell?, e]
theorem OI.sameB {w w' : World} {base g n c : Nat} {l : List Int} (h : OI w base (.slice (some ⟨g, 0, none⟩) n c) l) (e : w'.heap[g]? = w.heap[g]?) (hs : w.heap.size ≤ w'.heap.size) : OI w' base (.slice (some ⟨g, 0, none⟩) n c) l := by
  refine ⟨h.1, ?_⟩
  rcases h.2 with ⟨h1, h2⟩ | ⟨g', cap, cur, he, hb, hg, hnc, hcm, hsz, ht⟩
  · cases h1
  · obtain ⟨e1, e2, e3⟩ := slice_inj he
    injection e1 with e1
    injection e1 with e1
    subst e1
    exact .inr ⟨g, cap, cur, he, hb, e.trans hg, hnc, hcm, hsz, ht⟩
theorem OI.lt1 {w : World} {base g n c : Nat} {l : List Int} (h : OI w base (.slice (some ⟨g, 0, none⟩) n c) l) : base ≤ g ∧ g < w.heap.size := h.lt g rfl
theorem BK.same {w w' : World} {g : Nat} {T : TypeId} {cs : List Value} (h : BK w g T cs) (e : w'.heap[g]? = w.heap[g]?) : BK w' g T cs := e.trans h

end Go.Proofs.Ytgbojgmmingfdaa

/- Slices of lists as arguments: opened, sized, copied, compared. -/
namespace Go.Proofs.Ytgbojgmmingfdaa
open Go.ChangeShapes Go.WideShapes Go.ChangeAt Go.RowKit

/-- The slice reads as these lists. -/
def RS (w : World) (A : Option Addr) (n : Nat) (ls : List (List Int)) : Prop := ls.length = n ∧ ∀ k, k < n → ∃ ad A' n' c', A = some ad ∧ w.cell? (ad.add k) = some (.slice A' n' c') ∧ RI w A' n' (nthL ls k) ∧ n' ≤ 9223372036854775807
theorem RS.below {w w' : World} {A : Option Addr} {n : Nat} {ls : List (List Int)} (h : RS w A n ls) (b : Below w.heap.size w w') : RS w' A n ls :=
  ⟨h.1, fun k hk => by obtain ⟨ad, A', n', c', e, h1, h2, h3⟩ := h.2 k hk; exact ⟨ad, A', n', c', e, one_cell b h1, h2.below b, h3⟩⟩
theorem OS.rs {w : World} {base b : Nat} {A : Option Addr} {n c : Nat} {ls : List (List Int)} {cells : List Value} (h : OS w base b (.slice A n c) ls cells) (hn : n = ls.length) : RS w A n ls := by
  refine ⟨hn.symm, fun k hk => ?_⟩
  obtain ⟨ad, A', n', c', hA, hc, _, ho, hnc⟩ := OS.cell h hk
  obtain ⟨_, _, _, e, hr, h1, h2⟩ := ho.form
  injection e with e1 e2 e3
  subst e1 e2 e3
  exact ⟨ad, A', n', c', hA, hc, hr, Nat.le_trans h1 h2.1⟩

theorem Try.cellsS1 : Try.prog.cellsOf 22 = 1 := by kernel_rfl
theorem open_RS {H : Type} {enc : TypeId × Value → H} {W : World} {base : Nat} {sp : Nat → Bool} {hd : Bool} {a : Option Addr} {len cap : Nat} {d : DataW H} {p : List MemPlace}
    (h : DataW.Trod enc Try.prog W base sp hd 42 (.slice a len cap) d p) : ∃ ls, RS W a len ls ∧ len ≤ 9223372036854775807 := by
  obtain ⟨fuel, hf⟩ := h
  rcases Go.Deep.open_slice Try.underlying42 hf with ⟨hcs, _⟩ | ⟨x, l, c, m, nn, D, Pl, hcs, _, hl, hm, hmm, _, hel⟩
  · simp [Value.cells] at hcs
    obtain ⟨rfl, rfl, rfl⟩ := hcs
    exact ⟨[], ⟨rfl, fun k hk => by omega⟩, by omega⟩
  · simp [Value.cells] at hcs
    obtain ⟨rfl, rfl, rfl⟩ := hcs
    have key : ∀ k, ∃ y : List Int, k < len → ∃ A' n' c', W.cell? (x.add k) = some (.slice A' n' c') ∧ RI W A' n' y ∧ n' ≤ 9223372036854775807 := fun k => by
      by_cases hk : k < len
      · have hkm : k < m := by rw [hmm]; split <;> omega
        obtain ⟨cs', h1, h2⟩ := hel k hkm
        rw [Try.cellsS1] at h1
        obtain ⟨-, hl2, hcell⟩ := World.cells?_some h1
        match cs', hl2 with
        | [u0], _ =>
          have c0 := hcell 0 (by omega)
          rw [add_of_add] at c0
          obtain ⟨A, m', c, es⟩ := Joins.slice_form Try.underlying22 h2
          obtain rfl := List.head_eq_of_cons_eq es
          obtain ⟨l, hl', hle, hb⟩ := open_RI2 ⟨_, by simpa [Value.cells] using h2⟩
          exact ⟨l, fun _ => ⟨A, m', c, by simpa using c0, hl', hle⟩⟩
      · exact ⟨[], fun h => absurd h hk⟩
    obtain ⟨f, hf'⟩ := Classical.axiomOfChoice key
    refine ⟨(List.range len).map f, ⟨by simp, fun k hk => ?_⟩, by unfold maxLen at hm; omega⟩
    have : nthL ((List.range len).map f) k = f k := by simp [nthL, List.getD, hk]
    rw [this]
    obtain ⟨A', n', c', h1, h2, h3⟩ := hf' k hk
    exact ⟨x, A', n', c', rfl, h1, h2, h3⟩

end Go.Proofs.Ytgbojgmmingfdaa

/- slices.Clone of a slice of rows; append of several elements. -/
namespace Go.Proofs.Ytgbojgmmingfdaa
open Go.RowKit

/-- append of m elements of 'size' cells, at a row of the call's own. -/
theorem run_appN {P : Program} {w : World} {base b : Nat} {t e : TypeId} {size bytes : Nat} {z : Value} {v : Value} {n m : Nat} {fs fs2 : List (Int ⊕ List Int)} {cells news : List Value} (ty : TypeId)
    (ht : P.underlying t = some (.slice e)) (hinfo : (P.info? e).map (fun i => (i.zero, i.size, i.bytes)) = some (some z, size, bytes)) (hzs : z.cells.size = size) (hsz : 0 < size) (hbt : bytes ≤ 100) (he : e ≠ 3)
    (hown : OF w base b e size v n fs cells) (ad : Addr) (c : Nat) (hl : news.length = m * size) (hnews : ∀ j u, news[j]? = some u → w.cell? (ad.add j) = some u) (hfr : FRs w b fs2 news) (hd : Dist news)
    (hap : ∀ u ∈ cells, ∀ u' ∈ news, u.ownBlock = none ∨ u.ownBlock ≠ u'.ownBlock) (hlen : n + m ≤ 1000000000000) (hbase : base ≤ w.heap.size) :
    ∃ v' w', (Builtin.append_ #[t, t] ty #[v, .slice (some ad) m c]).run P w = .ok v' w' ∧ OF w' base b e size v' (n + m) (fs ++ fs2) (cells ++ news) ∧ w.grownBy w' v.ownBlock ∧ (v'.ownBlock = v.ownBlock ∨ v'.ownBlock = some w.heap.size) := by
  obtain ⟨i0, hi, hz, hs1, hb⟩ := info_parts hinfo
  obtain ⟨v', w', hr, h2, h3, _, h5⟩ := run_append_own_at (P := P) w base t ty e i0 z size bytes ht hi hz hs1 hb hzs hsz v n cells hown.1 ad m c news hl hnews hfr.one (by simp only [maxLen]; omega)
    (Nat.le_trans (Nat.mul_le_mul_left _ hbt) (by omega)) hbase
  exact ⟨v', w', hr, ⟨h2, (hown.2.1.append hfr).kept_type h3 (hown.typed' he), hown.2.2.append hd hap⟩, h3, h5⟩
theorem wpAppN {P : Program} {w : World} {ops : Array Oper} {rest : List Oper} {o : Oper} {a : Act} {Q : Exit → Act → World → Prop} (hgd : o.guard = none) (s x : Operand) (t e : TypeId)
    (ho : o.op = .call { callee := .builtin .append, args := #[s, x], argTypes := #[t, t] }) (size bytes : Nat) (z : Value)
    (ht : P.underlying t = some (.slice e)) (hinfo : (P.info? e).map (fun i => (i.zero, i.size, i.bytes)) = some (some z, size, bytes)) (hzs : z.cells.size = size) (hsz : 0 < size) (hbt : bytes ≤ 100) (he : e ≠ 3)
    (base b : Nat) (v : Value) (n m : Nat) (fs fs2 : List (Int ⊕ List Int)) (cells news : List Value) (ad : Addr) (c : Nat) (hs : a.eval s = v) (hx : a.eval x = .slice (some ad) m c)
    (hown : OF w base b e size v n fs cells) (hl : news.length = m * size) (hnews : ∀ j u, news[j]? = some u → w.cell? (ad.add j) = some u) (hfr : FRs w b fs2 news) (hd : Dist news)
    (hap : ∀ u ∈ cells, ∀ u' ∈ news, u.ownBlock = none ∨ u.ownBlock ≠ u'.ownBlock) (hlen : n + m ≤ 1000000000000) (hbase : base ≤ w.heap.size)
    (h : ∀ v' w', OF w' base b e size v' (n + m) (fs ++ fs2) (cells ++ news) → w.grownBy w' v.ownBlock → (v'.ownBlock = v.ownBlock ∨ v'.ownBlock = some w.heap.size) → wpList P ops Q rest (a.put o.dst v') w') :
    wpList P ops Q (o :: rest) a w := by
  refine wpList_plain hgd fun K hK => ?_
  obtain ⟨v', w', hr, h2, h3, h5⟩ := run_appN o.type ht hinfo hzs hsz hbt he hown ad c hl hnews hfr hd hap hlen hbase
  unfold Oper.wp execOp
  simp only [ho, resolve, invoke, builtin, Sem.run_bind, Sem.run_pure, Result.andThen_ok, List.map_toArray, List.map_cons, List.map_nil, hs, hx, hr]
  exact hK _ _ (h v' w' h2 h3 h5)

/-- A copy of the outer row: the rows themselves are shared. -/
def SharesS (w : World) (base b : Nat) (ls : List (List Int)) (cells : List Value) : Ending → World → Prop := fun e w' =>
  ∃ A n c, e = .returned (.slice A n c) ∧ OS w' base b (.slice A n c) ls cells ∧ (∀ k, (Value.slice A n c).ownBlock = some k → w.heap.size ≤ k) ∧ Below w.heap.size w w'
theorem cloneS_any {w : World} {base b n c : Nat} {A : Option Addr} {ls : List (List Int)} {cells : List Value} (h : OS w base b (.slice A n c) ls cells) (hn : n ≤ 1000000000) (hb : base ≤ w.heap.size) :
    Calls Try.prog 133 #[.slice A n c] w (SharesS w base b ls cells) := by
  have heq := fun (w : World) (a : Option Addr) (n c : Nat) => Lib.run_eql_slice_nil (P := Try.prog) w 42 22 a n c 0 0 Try.underlying42
  have H := Lib.hid h
  obtain ⟨A', c', hv, -, -, h0, hcl, hfl, hcells⟩ := OF.form h
  obtain ⟨rfl, rfl, rfl⟩ := slice_inj hv
  rcases A with _ | ad
  · have hn0 := h0 rfl
    obtain rfl : ls = [] := List.eq_nil_of_length_eq_zero hn0
    have HC : Hid (cells = []) := List.eq_nil_of_length_eq_zero hcl
    clear h hv h0 hcl hfl hcells
    go_enter Try.func133, Try.ntmps133
    go_wp2
    go_ret
    exact ⟨_, _, _, rfl, by rw [HC.out]; exact OF.nil_ _ _ _ _ _, by simp [Value.ownBlock], Below.refl _ _⟩
  · clear hv h0
    obtain ⟨w1, e1⟩ : ∃ W, W = w.alloc (.cells #[] 22) := ⟨_, rfl⟩
    have b1 : Below w.heap.size w w1 := by rw [e1]; exact (Below.refl _ _).alloc (Nat.le_refl _) _
    have hlit : Hid (OS w1 base b (.slice (some ⟨w.heap.size, 0, none⟩) 0 0) [] []) := by
      rw [e1]; exact OS.lit w base b [] [] hb FRs.nil_ Dist.nil_ (by simp) 0 rfl
    have HFR : Hid (FRs w1 b (rows ls) cells) := h.2.1.below b1
    have HCE : Hid (∀ j u, cells[j]? = some u → w1.cell? (ad.add j) = some u) := fun j u hu => by
      by_cases hp : 0 < ls.length
      · obtain ⟨ad', e, hc⟩ := hcells hp
        injection e with e
        subst e
        exact one_cell b1 (hc j u hu)
      · rw [show cells = [] from List.eq_nil_of_length_eq_zero (by omega)] at hu
        simp at hu
    have HB1 := Lib.hid b1
    have HS1 : Hid (w1.heap.size = w.heap.size + 1) := by show _ = _; rw [e1]; simp
    have E1 := Lib.hid e1
    clear h hfl hcells b1 e1
    go_enter Try.func133, Try.ntmps133
    go_wp2_with (at_builtin; rw [← E1.out]; refine wpAppN rfl _ _ 42 22 rfl 1 24 (.slice none 0 0) Try.underlying42 Try.infoInts rfl (by omega) (by omega) (by decide) base b (.slice (some ⟨w.heap.size, 0, none⟩) 0 0) 0 ls.length [] (rows ls) [] cells ad c rfl rfl hlit.out hcl HCE.out HFR.out H.out.2.2 (by simp) (by omega) (by have := HS1.out; omega) ?_; intro v' w' h1 h2 h3)
    have ho : OS w' base b v' ls cells := by
      unfold OS
      have := h1
      rw [Nat.zero_add, List.nil_append, List.nil_append] at this
      exact this
    obtain ⟨A2, n2, c2, rfl, -⟩ := OS.form ho
    go_ret
    refine ⟨_, _, _, rfl, ho, fun k hk => ?_, HB1.out.grown h2 HB1.out.size fun k hk => ?_⟩
    · rcases h3 with h3 | h3
      · rw [h3] at hk; simp [Value.ownBlock] at hk; omega
      · rw [h3] at hk; injection hk with hk; have := HS1.out; omega
    · simp [Value.ownBlock] at hk; omega
end Go.Proofs.Ytgbojgmmingfdaa

/- Slices of lists copied and compared. -/
namespace Go.Proofs.Ytgbojgmmingfdaa
open Go.RowKit

section
variable {w w' : World} {base b size n m : Nat} {e : TypeId} {v u : Value} {fs : List (Int ⊕ List Int)} {cells : List Value} {l : List Int}
theorem FRs.setRow (h : FRs w b fs cells) (hm : m < fs.length) (hu : OI w b u l) : FRs w b (fs.set m (.inr l)) (cells.set m u) := by
  refine ⟨by simp [h.1], fun j x a hx ha => ?_⟩
  by_cases hj : m = j
  · subst hj
    rw [List.getElem?_set_self hm] at hx
    rw [List.getElem?_set_self (by rw [h.1]; exact hm)] at ha
    injection hx with hx
    injection ha with ha
    subst hx ha
    exact hu
  · rw [List.getElem?_set_ne hj] at hx ha
    exact h.2 j x a hx ha
theorem Dist.setRow (h : Dist cells) (hap : ∀ u' ∈ cells, u'.ownBlock = none ∨ u'.ownBlock ≠ u.ownBlock) : Dist (cells.set m u) := by
  intro i j a a' hij h1 h2
  by_cases hi : m = i
  · subst hi
    have hm := (List.getElem?_eq_some_iff.1 h1).1
    rw [List.getElem?_set_self (by simpa using hm)] at h1
    rw [List.getElem?_set_ne (by omega)] at h2
    injection h1 with h1
    subst h1
    rcases hap a' (List.mem_of_getElem? h2) with h3 | h3
    · rcases hk : u.ownBlock with _ | k
      · exact .inl rfl
      · exact .inr (by rw [h3]; simp)
    · exact .inr (Ne.symm h3)
  · rw [List.getElem?_set_ne hi] at h1
    by_cases hj : m = j
    · subst hj
      have hm := (List.getElem?_eq_some_iff.1 h2).1
      rw [List.getElem?_set_self (by simpa using hm)] at h2
      injection h2 with h2
      subst h2
      exact hap a (List.mem_of_getElem? h1)
    · rw [List.getElem?_set_ne hj] at h2
      exact h i j a a' hij h1 h2
theorem OF.setRow {g c : Nat} (h : OF w base b e size (.slice (some ⟨g, 0, none⟩) n c) n fs cells) (he : e ≠ 3) (hm : m < fs.length) (hu : OI w b u l) (hap : ∀ u' ∈ cells, u'.ownBlock = none ∨ u'.ownBlock ≠ u.ownBlock) :
    OF (w.setCell ⟨g, m, none⟩ u) base b e size (.slice (some ⟨g, 0, none⟩) n c) n (fs.set m (.inr l)) (cells.set m u) ∧ w.grownBy (w.setCell ⟨g, m, none⟩ u) (some g) := by
  obtain ⟨h1, h2⟩ := h.1.stored m u
  have hk : ∀ g', some g = some g' → ∃ cs e m, w.heap[g']? = some (.cells cs e m) ∧ e ≠ 3 := fun g' e' => by
    injection e' with e'; subst e'
    exact h.typed' he g rfl
  exact ⟨⟨h1, (h.2.1.kept_type h2 hk).setRow hm (OI.kept_type hu h2 hk), h.2.2.setRow hap⟩, h2⟩
end
theorem nthL_set_eq {ls : List (List Int)} {k : Nat} {x : List Int} (h : k < ls.length) : nthL (ls.set k x) k = x := by simp [nthL, List.getD, h]
theorem nthL_set_ne {ls : List (List Int)} {k j : Nat} {x : List Int} (h : k ≠ j) : nthL (ls.set k x) j = nthL ls j := by simp [nthL, List.getD, List.getElem?_set_ne h]
theorem rows_set (ls : List (List Int)) (k : Nat) (x : List Int) : (rows ls).set k (.inr x) = rows (ls.set k x) := by simp [rows, List.map_set]
theorem ext_nthL {a b : List (List Int)} (hl : a.length = b.length) (h : ∀ j, j < a.length → nthL a j = nthL b j) : a = b := by
  refine List.ext_getElem hl fun i h1 h2 => ?_
  have := h i h1
  rwa [nthL_lt h1, nthL_lt h2] at this
/-- A row of nils. -/
theorem nils_OS {w : World} {base b n : Nat} {v : Value} (h : w.ownsRow base 22 1 v n (List.replicate n (.slice none 0 0))) : OS w base b v (List.replicate n []) (List.replicate n (.slice none 0 0)) := by
  unfold OS
  rw [List.length_replicate]
  refine ⟨h, ⟨by simp [rows], fun j x u hx hu => ?_⟩, fun i j a a' hij h1 h2 => ?_⟩
  · have e1 := List.mem_replicate.1 (List.mem_of_getElem? hu)
    have hx2 := List.mem_of_getElem? hx
    simp only [rows, List.map_replicate] at hx2
    have e2 := List.mem_replicate.1 hx2
    rw [e1.2, e2.2]
    exact OI.nil_ _ _
  · have e1 := List.mem_replicate.1 (List.mem_of_getElem? h1)
    rw [e1.2]
    exact .inl rfl

end Go.Proofs.Ytgbojgmmingfdaa
