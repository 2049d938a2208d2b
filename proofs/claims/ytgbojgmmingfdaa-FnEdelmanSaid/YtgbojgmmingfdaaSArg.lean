/- Slices of lists as arguments: opened, sized, copied, compared. -/
import Derived.Test.YtgbojgmmingfdaaWords
import Derived.Test.YtgbojgmmingfdaaBegW
namespace Go.Proofs.Ytgbojgmmingfdaa
open Go.ChangeShapes Go.WideShapes Go.ChangeAt Go.RowKit

/-- The slice reads as these lists. -/
def RS (w : World) (A : Option Addr) (n : Nat) (ls : List (List Int)) : Prop := ls.length = n ∧ ∀ k, k < n → ∃ ad A' n' c', A = some ad ∧ w.cell? (ad.add k) = some (.slice A' n' c') ∧ RI w A' n' (nthL ls k) ∧ n' ≤ 9223372036854775807
theorem RS.below {w w' : World} {A : Option Addr} {n : Nat} {ls : List (List Int)} (h : RS w A n ls) (b : Below w.heap.size w w') : RS w' A n ls :=
  ⟨h.1, fun k hk => by obtain ⟨ad, A', n', c', e, h1, h2, h3⟩ := h.2 k hk; exact ⟨ad, A', n', c', e, one_cell b h1, h2.below b, h3⟩⟩
theorem OS.rs {w : World} {base b : Nat} {A : Option Addr} {n c : Nat} {ls : List (List Int)} {cells : List Value} (h : OS w base b (.slice A n c) ls cells) (hn : n = ls.length) : RS w A n ls := by
  refine ⟨hn.symm, fun k hk => ?_⟩
  obtain ⟨ad, A', n', c', hA, hc, _, ho, hnc⟩ := OS.cell h hk
  obtain ⟨_, _, _, e, hr, h1, h2⟩ := ho.form
  injection e with e1 e2 e3
  subst e1 e2 e3
  exact ⟨ad, A', n', c', hA, hc, hr, Nat.le_trans h1 h2.1⟩

theorem Try.cellsS1 : Try.prog.cellsOf 22 = 1 := by kernel_rfl
theorem open_RS {H : Type} {enc : TypeId × Value → H} {W : World} {base : Nat} {sp : Nat → Bool} {hd : Bool} {a : Option Addr} {len cap : Nat} {d : DataW H} {p : List MemPlace}
    (h : DataW.Trod enc Try.prog W base sp hd 42 (.slice a len cap) d p) : ∃ ls, RS W a len ls ∧ len ≤ 9223372036854775807 := by
  obtain ⟨fuel, hf⟩ := h
  rcases Go.Deep.open_slice Try.underlying42 hf with ⟨hcs, _⟩ | ⟨x, l, c, m, nn, D, Pl, hcs, _, hl, hm, hmm, _, hel⟩
  · simp [Value.cells] at hcs
    obtain ⟨rfl, rfl, rfl⟩ := hcs
    exact ⟨[], ⟨rfl, fun k hk => by omega⟩, by omega⟩
  · simp [Value.cells] at hcs
    obtain ⟨rfl, rfl, rfl⟩ := hcs
    have key : ∀ k, ∃ y : List Int, k < len → ∃ A' n' c', W.cell? (x.add k) = some (.slice A' n' c') ∧ RI W A' n' y ∧ n' ≤ 9223372036854775807 := fun k => by
      by_cases hk : k < len
      · have hkm : k < m := by rw [hmm]; split <;> omega
        obtain ⟨cs', h1, h2⟩ := hel k hkm
        rw [Try.cellsS1] at h1
        obtain ⟨-, hl2, hcell⟩ := World.cells?_some h1
        match cs', hl2 with
        | [u0], _ =>
          have c0 := hcell 0 (by omega)
          rw [add_of_add] at c0
          obtain ⟨A, m', c, es⟩ := Joins.slice_form Try.underlying22 h2
          obtain rfl := List.head_eq_of_cons_eq es
          obtain ⟨l, hl', hle, hb⟩ := open_RI2 ⟨_, by simpa [Value.cells] using h2⟩
          exact ⟨l, fun _ => ⟨A, m', c, by simpa using c0, hl', hle⟩⟩
      · exact ⟨[], fun h => absurd h hk⟩
    obtain ⟨f, hf'⟩ := Classical.axiomOfChoice key
    refine ⟨(List.range len).map f, ⟨by simp, fun k hk => ?_⟩, by unfold maxLen at hm; omega⟩
    have : nthL ((List.range len).map f) k = f k := by simp [nthL, List.getD, hk]
    rw [this]
    obtain ⟨A', n', c', h1, h2, h3⟩ := hf' k hk
    exact ⟨x, A', n', c', rfl, h1, h2, h3⟩

end Go.Proofs.Ytgbojgmmingfdaa

/- Slices of rows that the call owns: one row is written, or put anew; copies of all rows. -/
namespace Go.Proofs.Ytgbojgmmingfdaa
open Go.RowKit

theorem nthL_setE {ls : List (List Int)} {k : Nat} {x : List Int} (h : k < ls.length) : nthL (ls.set k x) k = x := by simp [nthL, List.getD, h]
theorem nthL_setN {ls : List (List Int)} {k j : Nat} {x : List Int} (h : k ≠ j) : nthL (ls.set k x) j = nthL ls j := by simp [nthL, List.getD, List.getElem?_set_ne h]
theorem rows_setR (ls : List (List Int)) (k : Nat) (x : List Int) : (rows ls).set k (.inr x) = rows (ls.set k x) := by simp [rows, List.map_set]
theorem OS.cellG {w : World} {base b G n c k : Nat} {ls : List (List Int)} {cells : List Value} (h : OS w base b (.slice (some ⟨G, 0, none⟩) n c) ls cells) (hk : k < n) :
    ∃ A' n' c', w.cell? ⟨G, k, none⟩ = some (.slice A' n' c') ∧ cells[k]? = some (.slice A' n' c') ∧ OI w b (.slice A' n' c') (nthL ls k) ∧ n' ≤ c' := by
  obtain ⟨ad, A', n', c', hA, h1, h2, h3, h4⟩ := OS.cell h hk
  have hl := OS.lenS h
  have ho := h.1
  unfold OS OF at h
  rw [hl] at ho
  have h5 := ho.cellAt k (by omega)
  exact ⟨A', n', c', h5.trans h2, h2, h3, h4⟩
theorem OS.frozenG {w : World} {base b G n c : Nat} {ls : List (List Int)} {cells : List Value} (h : OS w base b (.slice (some ⟨G, 0, none⟩) n c) ls cells) (k : Nat) : w.frozen? ⟨G, k, none⟩ = false := by
  have ho := h.1
  rw [OS.lenS h] at ho
  exact ho.frozenAt k
/-- A row has turned, in its own block. -/
theorem OS.rowTurn {w w1 : World} {base b r : Nat} {v u : Value} {ls : List (List Int)} {cells : List Value} {l' : List Int} (h : OS w base b v ls cells) (hr : r < ls.length) (hu : cells[r]? = some u) (hg : w.grownBy w1 u.ownBlock) (ho : OI w1 b u l') :
    OS w1 base b v (ls.set r l') cells := by
  have hcl : cells.length = ls.length := by rw [h.2.1.1, rows_len]
  have hU : OI w b u (nthL ls r) := h.2.1.2 r _ u (rows_at hr) hu
  have hne : v.ownBlock = none ∨ v.ownBlock ≠ u.ownBlock := by
    rcases hv : v.ownBlock with _ | g
    · exact .inl rfl
    · refine .inr fun e => ?_
      obtain ⟨cs, m, h1⟩ := OF.typed h g hv
      obtain ⟨cs2, m2, h2⟩ := OI.typed hU g e.symm
      rw [h1] at h2
      injection h2 with h2
      injection h2 with _ h3
      exact absurd h3 (by decide)
  refine ⟨?_, ⟨by rw [← rows_setR, List.length_set]; exact h.2.1.1, fun j x u2 hx hu2 => ?_⟩, h.2.2⟩
  · rw [List.length_set]
    exact World.ownsRow.kept h.1 hg hne
  · by_cases hj : r = j
    · subst hj
      have e1 : (rows (ls.set r l'))[r]? = some (.inr l') := by rw [← rows_setR]; exact List.getElem?_set_self (by rw [rows_len]; exact hr)
      rw [e1] at hx
      injection hx with hx
      rw [hu] at hu2
      injection hu2 with hu2
      subst hx hu2
      exact ho
    · rw [← rows_setR, List.getElem?_set_ne hj] at hx
      have hf := h.2.1.2 j x u2 hx hu2
      cases x with
      | inl y => exact hf
      | inr l =>
        refine OI.kept (w := w) hf hg ?_
        rcases Nat.lt_or_ge j r with hlt | hge
        · exact h.2.2 j r u2 u hlt hu2 hu
        · rcases h.2.2 r j u u2 (by omega) hu hu2 with h3 | h3
          · rw [h3]
            rcases u2.ownBlock with _ | g
            · exact .inl rfl
            · exact .inr (by simp)
          · exact .inr (Ne.symm h3)
/-- A row is put anew, behind an append to it. -/
theorem OS.rowPut {w w1 : World} {base b G n c r : Nat} {u u' : Value} {ls : List (List Int)} {cells : List Value} {l' : List Int} (h : OS w base b (.slice (some ⟨G, 0, none⟩) n c) ls cells) (hr : r < ls.length) (hu : cells[r]? = some u) (hg : w.grownBy w1 u.ownBlock) (ho : OI w1 b u' l')
    (hk : u'.ownBlock = u.ownBlock ∨ ∀ k, u'.ownBlock = some k → w.heap.size ≤ k) :
    OS (w1.setCell ⟨G, r, none⟩ u') base b (.slice (some ⟨G, 0, none⟩) n c) (ls.set r l') (cells.set r u') ∧ w1.grownBy (w1.setCell ⟨G, r, none⟩ u') (some G) := by
  have hcl : cells.length = ls.length := by rw [h.2.1.1, rows_len]
  have hU : OI w b u (nthL ls r) := h.2.1.2 r _ u (rows_at hr) hu
  obtain ⟨csG, mG, htG⟩ := OF.typed h G rfl
  have hne : (Value.slice (some ⟨G, 0, none⟩) n c).ownBlock = none ∨ (Value.slice (some ⟨G, 0, none⟩) n c).ownBlock ≠ u.ownBlock := by
    refine .inr fun e => ?_
    obtain ⟨cs2, m2, h2⟩ := OI.typed hU G e.symm
    rw [htG] at h2
    injection h2 with h2
    injection h2 with _ h3
    exact absurd h3 (by decide)
  have h1 := World.ownsRow.kept h.1 hg hne
  have hln := OS.lenS h
  rw [hln] at h1
  obtain ⟨s1, s2⟩ := h1.stored r u'
  have htG1 : ∃ cs m, w1.heap[G]? = some (.cells cs 22 m) := by
    have hb := hg.block G (by have := OF.lt h G rfl; omega) (fun e => by
      rcases hne with h2 | h2
      · simp [Value.ownBlock] at h2
      · exact h2 e)
    exact ⟨_, _, hb.trans htG⟩
  have htr : ∀ g, some G = some g → ∃ cs e m, w1.heap[g]? = some (.cells cs e m) ∧ e ≠ 3 := fun g e => by
    injection e with e
    subst e
    obtain ⟨cs, m, hh⟩ := htG1
    exact ⟨cs, _, m, hh, by decide⟩
  refine ⟨⟨?_, ⟨by rw [← rows_setR, List.length_set, List.length_set]; exact h.2.1.1, fun j x u2 hx hu2 => ?_⟩, fun i j a a' hij ha ha' => ?_⟩, s2⟩
  · rw [List.length_set, hln]
    exact s1
  · by_cases hj : r = j
    · subst hj
      have e1 : (rows (ls.set r l'))[r]? = some (.inr l') := by rw [← rows_setR]; exact List.getElem?_set_self (by rw [rows_len]; exact hr)
      rw [e1] at hx
      injection hx with hx
      rw [List.getElem?_set_self (by omega)] at hu2
      injection hu2 with hu2
      subst hx hu2
      exact OI.kept_type ho s2 htr
    · rw [← rows_setR, List.getElem?_set_ne hj] at hx
      rw [List.getElem?_set_ne hj] at hu2
      have hf := h.2.1.2 j x u2 hx hu2
      cases x with
      | inl y => exact hf
      | inr l =>
        refine OI.kept_type (w := w1) (OI.kept (w := w) hf hg ?_) s2 htr
        rcases Nat.lt_or_ge j r with hlt | hge
        · exact h.2.2 j r u2 u hlt hu2 hu
        · rcases h.2.2 r j u u2 (by omega) hu hu2 with h3 | h3
          · rw [h3]
            rcases u2.ownBlock with _ | g
            · exact .inl rfl
            · exact .inr (by simp)
          · exact .inr (Ne.symm h3)
  · have old : ∀ {q : Nat} {y : Value}, cells[q]? = some y → ∀ k, y.ownBlock = some k → k < w.heap.size := fun hq k hk2 => (h.2.1.ltD (List.mem_of_getElem? hq) k hk2).2
    by_cases hi : r = i
    · subst hi
      rw [List.getElem?_set_self (by omega)] at ha
      injection ha with ha
      subst ha
      rw [List.getElem?_set_ne (by omega)] at ha'
      rcases hk with hk | hk
      · rw [hk]; exact h.2.2 r j u a' hij hu ha'
      · rcases hq : u'.ownBlock with _ | g
        · exact .inl rfl
        · refine .inr fun e => ?_
          have := hk g hq
          have := old ha' g e.symm
          omega
    · rw [List.getElem?_set_ne hi] at ha
      by_cases hj : r = j
      · subst hj
        rw [List.getElem?_set_self (by omega)] at ha'
        injection ha' with ha'
        subst ha'
        rcases hk with hk | hk
        · rw [hk]; exact h.2.2 i r a u hij ha hu
        · rcases hq : a.ownBlock with _ | g
          · exact .inl rfl
          · refine .inr fun e => ?_
            have := hk g e.symm
            have := old ha g hq
            omega
      · rw [List.getElem?_set_ne hj] at ha'
        exact h.2.2 i j a a' hij ha ha'
set_option maxRecDepth 100000 in
set_option maxHeartbeats 1000000 in
theorem copyRows_any {A : Option Addr} {n : Nat} {ls : List (List Int)} {w : World} (c : Nat) (hx : RS w A n ls) (hn : n ≤ 1000000) (hs : ∀ k, k < n → (nthL ls k).length ≤ 1000000) :
    Calls Try.prog 111 #[.slice A n c] w (MakesS w ls) := by
  have HX := Lib.hid hx
  have HSS := Lib.hid hs
  have HL : Hid (ls.length = n) := hx.1
  have HLIT : Hid (OS (w.alloc (.cells #[] 22)) w.heap.size w.heap.size (.slice (some ⟨w.heap.size, 0, none⟩) 0 0) [] [] ∧ Below w.heap.size w (w.alloc (.cells #[] 22))) := by
    refine ⟨?_, (Below.refl _ _).alloc (Nat.le_refl _) _⟩
    have h := OS.lit w w.heap.size w.heap.size [] [] (Nat.le_refl _) FRs.nil_ Dist.nil_ (by simp) 0 rfl
    simpa using h
  clear hx hs
  go_enter Try.func111, Try.ntmps111
  go_wp2_with fail
  go_loopw [3, 5, 9] (fun ov _ i wr => ∃ (k : Nat) (D : Option Addr) (dn dd : Nat) (cells : List Value), k ≤ n ∧ i = .int .i64 (k : Int) ∧ ov = .slice D dn dd ∧ Hid (OS wr w.heap.size w.heap.size (.slice D dn dd) (ls.take k) cells ∧ Below w.heap.size w wr)) (fun _ _ i _ => n - (intOf i).toNat)
  case atStart => exact ⟨0, _, _, _, _, Nat.zero_le _, rfl, rfl, by rw [List.take_zero]; exact HLIT.out⟩
  case round =>
    obtain ⟨k, D, dn, dd, cells, hk, rfl, rfl, HY⟩ := hrel
    by_cases hlt : k < n
    · obtain ⟨ad, A', n', c', rfl, z0, r0, -⟩ := (HX.out.below HY.out.2).2 k hlt
      obtain ⟨l0, hl0⟩ : ∃ x, x = nthL ls k := ⟨_, rfl⟩
      have hlen := HSS.out k hlt
      rw [← hl0] at r0 hlen
      have HT : Hid (ls.take (k + 1) = ls.take k ++ [l0]) := by show _ = _; rw [hl0, nthL_lt (by rw [HL.out]; exact hlt), List.take_succ_eq_append_getElem]
      have HCL : Hid (Calls Try.prog 134 #[.slice A' n' c'] wr (Makes wr l0)) := clone_any c' r0 (by rw [← r0.1]; omega)
      have HLE : Hid ((ls.take k).length + 1 ≤ 1000000000000) := by show _ ≤ _; rw [List.length_take]; omega
      have HSZ : Hid (w.heap.size ≤ wr.heap.size) := HY.out.2.size
      have HFR := Lib.hid HY.out.1.2.1
      clear hl0 hlen r0
      go_wp2_with (first
        | (go_at_call 134; refine HCL.out.mono ?_; rintro e w4 ⟨A4, n4, c4, rfl, o4, r4, -, b4⟩)
        | (at_builtin; refine wpAppS rfl _ _ rfl w.heap.size w.heap.size (.slice D dn dd) (ls.take k) cells (.slice A4 n4 c4) l0 rfl rfl (OF.below HY.out.1 b4) (OI.mono o4 HSZ.out) (apart_new (H := wr.heap.size) HFR.out (Nat.le_refl _) o4) HLE.out (Nat.le_trans HSZ.out b4.size) ?_; intro v7 w7 o7 g7 k7)
        | fail)
      obtain ⟨D7, dn7, dd7, rfl, -⟩ := OS.form o7
      have HF : Hid (OS w7 w.heap.size w.heap.size (.slice D7 dn7 dd7) (ls.take (k + 1)) (cells ++ [.slice A4 n4 c4]) ∧ Below w.heap.size w w7) := by
        refine ⟨by rw [HT.out]; exact o7, ?_⟩
        have hb := (HY.out.2.trans (b4.mono HSZ.out)).alloc (Nat.le_trans HSZ.out b4.size) (.cells #[.slice A4 n4 c4] 22)
        exact hb.grown g7 hb.size fun k hk => (OF.lt HY.out.1 k hk).1
      clear o4 r4 b4 o7 g7 k7
      go_roundw
      case rel => exact ⟨k + 1, _, _, _, _, by omega, by go_num, rfl, HF.out⟩
      case measure => simp [intOf]; omega
    · obtain rfl : k = n := by omega
      go_wp2_with fail
      go_ret
      have e : ls.take k = ls := List.take_of_length_le (by rw [HL.out]; omega)
      have h1 := HY.out.1
      rw [e] at h1
      exact MakesS.of h1 HY.out.2
end Go.Proofs.Ytgbojgmmingfdaa
