/- Slices of lists as arguments: opened, sized, copied, compared. -/
import Derived.Test.YtmodpicemlkbjaaWords
namespace Go.Proofs.Ytmodpicemlkbjaa
open Go.ChangeShapes Go.WideShapes Go.ChangeAt Go.RowKit

/-- The slice reads as these lists. -/
def RS (w : World) (A : Option Addr) (n : Nat) (ls : List (List Int)) : Prop := ls.length = n ∧ ∀ k, k < n → ∃ ad A' n' c', A = some ad ∧ w.cell? (ad.add k) = some (.slice A' n' c') ∧ RI w A' n' (nthL ls k) ∧ n' ≤ 9223372036854775807
theorem RS.below {w w' : World} {A : Option Addr} {n : Nat} {ls : List (List Int)} (h : RS w A n ls) (b : Below w.heap.size w w') : RS w' A n ls :=
  ⟨h.1, fun k hk => by obtain ⟨ad, A', n', c', e, h1, h2, h3⟩ := h.2 k hk; exact ⟨ad, A', n', c', e, one_cell b h1, h2.below b, h3⟩⟩
theorem OS.rs {w : World} {base b : Nat} {A : Option Addr} {n c : Nat} {ls : List (List Int)} {cells : List Value} (h : OS w base b (.slice A n c) ls cells) (hn : n = ls.length) : RS w A n ls := by
  refine ⟨hn.symm, fun k hk => ?_⟩
  obtain ⟨ad, A', n', c', hA, hc, _, ho, hnc⟩ := OS.cell h hk
  obtain ⟨_, _, _, e, hr, h1, h2⟩ := ho.form
  injection e with e1 e2 e3
  subst e1 e2 e3
  exact ⟨ad, A', n', c', hA, hc, hr, Nat.le_trans h1 h2.1⟩

theorem Try.cellsS1 : Try.prog.cellsOf 30 = 1 := by kernel_rfl
theorem open_RS {H : Type} {enc : TypeId × Value → H} {W : World} {base : Nat} {sp : Nat → Bool} {hd : Bool} {a : Option Addr} {len cap : Nat} {d : DataW H} {p : List MemPlace}
    (h : DataW.Trod enc Try.prog W base sp hd 22 (.slice a len cap) d p) : ∃ ls, RS W a len ls ∧ len ≤ 9223372036854775807 := by
  obtain ⟨fuel, hf⟩ := h
  rcases Go.Deep.open_slice Try.underlying22 hf with ⟨hcs, _⟩ | ⟨x, l, c, m, nn, D, Pl, hcs, _, hl, hm, hmm, _, hel⟩
  · simp [Value.cells] at hcs
    obtain ⟨rfl, rfl, rfl⟩ := hcs
    exact ⟨[], ⟨rfl, fun k hk => by omega⟩, by omega⟩
  · simp [Value.cells] at hcs
    obtain ⟨rfl, rfl, rfl⟩ := hcs
    have key : ∀ k, ∃ y : List Int, k < len → ∃ A' n' c', W.cell? (x.add k) = some (.slice A' n' c') ∧ RI W A' n' y ∧ n' ≤ 9223372036854775807 := fun k => by
      by_cases hk : k < len
      · have hkm : k < m := by rw [hmm]; split <;> omega
        obtain ⟨cs', h1, h2⟩ := hel k hkm
        rw [Try.cellsS1] at h1
        obtain ⟨-, hl2, hcell⟩ := World.cells?_some h1
        match cs', hl2 with
        | [u0], _ =>
          have c0 := hcell 0 (by omega)
          rw [add_of_add] at c0
          obtain ⟨A, m', c, es⟩ := Joins.slice_form Try.underlying30 h2
          obtain rfl := List.head_eq_of_cons_eq es
          obtain ⟨l, hl', hle, hb⟩ := open_RI2 ⟨_, by simpa [Value.cells] using h2⟩
          exact ⟨l, fun _ => ⟨A, m', c, by simpa using c0, hl', hle⟩⟩
      · exact ⟨[], fun h => absurd h hk⟩
    obtain ⟨f, hf'⟩ := Classical.axiomOfChoice key
    refine ⟨(List.range len).map f, ⟨by simp, fun k hk => ?_⟩, by unfold maxLen at hm; omega⟩
    have : nthL ((List.range len).map f) k = f k := by simp [nthL, List.getD, hk]
    rw [this]
    obtain ⟨A', n', c', h1, h2, h3⟩ := hf' k hk
    exact ⟨x, A', n', c', rfl, h1, h2, h3⟩

theorem szI_any {A : Option Addr} {n : Nat} {w : World} (c : Nat) (left : Int) (h1 : n ≤ 9223372036854775807) (hl : 0 ≤ left) (hl2 : left ≤ 1048576) :
    Calls Try.prog 56 #[.slice A n c, .int .i64 left] w (fun e w' => ((left < n ∧ e = .returned (.int .i64 (-1))) ∨ ((n : Int) ≤ left ∧ e = .returned (.int .i64 (left - n)))) ∧ Below w.heap.size w w') := by
  go_enter Try.func56, Try.ntmps56
  by_cases k1 : left < n
  · go_wp2
    go_ret
    exact ⟨.inl ⟨by omega, rfl⟩, Below.refl _ _⟩
  · go_wp2
    go_ret
    first | exact ⟨.inr rfl, Below.refl _ _⟩ | exact ⟨.inr ⟨by omega, rfl⟩, Below.refl _ _⟩

theorem szS_any {A : Option Addr} {n : Nat} {ls : List (List Int)} {w : World} (c : Nat) (hx : RS w A n ls) (hn : n ≤ 9223372036854775807) :
    Calls Try.prog 14 #[.slice A n c, .int .i64 1048576] w (fun e w' => (e = .returned (.int .i64 (-1)) ∨ ∃ x : Int, 0 ≤ x ∧ e = .returned (.int .i64 x) ∧ n ≤ 1048576 ∧ ∀ k, k < n → (nthL ls k).length ≤ 1048576) ∧ Below w.heap.size w w') := by
  by_cases hbig : 1048576 < n
  · go_enter Try.func14, Try.ntmps14
    go_wp2
    go_ret
    exact ⟨.inl rfl, Below.refl _ _⟩
  go_enter Try.func14, Try.ntmps14
  go_wp2
  go_loopw [1, 5] (fun l i wr => ∃ (k : Nat) (x : Int), k ≤ n ∧ i = .int .i64 (k : Int) ∧ l = .int .i64 x ∧ 0 ≤ x ∧ x ≤ 1048576 ∧ Hid (∀ j, j < k → (nthL ls j).length ≤ 1048576) ∧ Below w.heap.size w wr) (fun _ i _ => n - (intOf i).toNat)
  case atStart => exact ⟨0, _, Nat.zero_le _, rfl, rfl, by omega, by omega, fun j h => by omega, Below.refl _ _⟩
  case round =>
    obtain ⟨k, x, hk, rfl, rfl, x1, x2, HT, hb⟩ := hrel
    by_cases hlt : k < n
    · obtain ⟨ad, As, ns, cs, hA, c1, hr, hns⟩ := (hx.below hb).2 k hlt
      subst hA
      have hls := hr.1
      by_cases hbs : x < ns
      · go_wp2_with (go_at_call 56; refine (szI_any _ _ hns x1 x2).mono ?_; rintro e w2 ⟨⟨hc, rfl⟩ | ⟨hc, rfl⟩, b2⟩)
        all_goals first
          | (exfalso; omega)
          | (go_ret; exact ⟨.inl rfl, bnext hb b2 hb.size⟩)
      · go_wp2_with (go_at_call 56; refine (szI_any _ _ hns x1 x2).mono ?_; rintro e w2 ⟨⟨hc, rfl⟩ | ⟨hc, rfl⟩, b2⟩)
        all_goals first
          | (exfalso; omega)
          | (go_roundw
             case rel => exact ⟨k + 1, _, by omega, by go_num, rfl, by omega, by omega, upTo (P := fun j => (nthL ls j).length ≤ 1048576) HT.out (by omega), bnext hb b2 hb.size⟩
             case measure => simp [intOf]; omega)
    · obtain rfl : k = n := by omega
      go_wp2
      go_ret
      exact ⟨.inr ⟨x, x1, rfl, by omega, HT.out⟩, hb⟩
end Go.Proofs.Ytmodpicemlkbjaa

/- Slices of lists copied and compared. -/
namespace Go.Proofs.Ytmodpicemlkbjaa
open Go.RowKit

section
variable {w w' : World} {base b size n m : Nat} {e : TypeId} {v u : Value} {fs : List (Int ⊕ List Int)} {cells : List Value} {l : List Int}
theorem FRs.setRow (h : FRs w b fs cells) (hm : m < fs.length) (hu : OI w b u l) : FRs w b (fs.set m (.inr l)) (cells.set m u) := by
  refine ⟨by simp [h.1], fun j x a hx ha => ?_⟩
  by_cases hj : m = j
  · subst hj
    rw [List.getElem?_set_self hm] at hx
    rw [List.getElem?_set_self (by rw [h.1]; exact hm)] at ha
    injection hx with hx
    injection ha with ha
    subst hx ha
    exact hu
  · rw [List.getElem?_set_ne hj] at hx ha
    exact h.2 j x a hx ha
theorem Dist.setRow (h : Dist cells) (hap : ∀ u' ∈ cells, u'.ownBlock = none ∨ u'.ownBlock ≠ u.ownBlock) : Dist (cells.set m u) := by
  intro i j a a' hij h1 h2
  by_cases hi : m = i
  · subst hi
    have hm := (List.getElem?_eq_some_iff.1 h1).1
    rw [List.getElem?_set_self (by simpa using hm)] at h1
    rw [List.getElem?_set_ne (by omega)] at h2
    injection h1 with h1
    subst h1
    rcases hap a' (List.mem_of_getElem? h2) with h3 | h3
    · rcases hk : u.ownBlock with _ | k
      · exact .inl rfl
      · exact .inr (by rw [h3]; simp)
    · exact .inr (Ne.symm h3)
  · rw [List.getElem?_set_ne hi] at h1
    by_cases hj : m = j
    · subst hj
      have hm := (List.getElem?_eq_some_iff.1 h2).1
      rw [List.getElem?_set_self (by simpa using hm)] at h2
      injection h2 with h2
      subst h2
      exact hap a (List.mem_of_getElem? h1)
    · rw [List.getElem?_set_ne hj] at h2
      exact h i j a a' hij h1 h2
theorem OF.setRow {g c : Nat} (h : OF w base b e size (.slice (some ⟨g, 0, none⟩) n c) n fs cells) (he : e ≠ 3) (hm : m < fs.length) (hu : OI w b u l) (hap : ∀ u' ∈ cells, u'.ownBlock = none ∨ u'.ownBlock ≠ u.ownBlock) :
    OF (w.setCell ⟨g, m, none⟩ u) base b e size (.slice (some ⟨g, 0, none⟩) n c) n (fs.set m (.inr l)) (cells.set m u) ∧ w.grownBy (w.setCell ⟨g, m, none⟩ u) (some g) := by
  obtain ⟨h1, h2⟩ := h.1.stored m u
  have hk : ∀ g', some g = some g' → ∃ cs e m, w.heap[g']? = some (.cells cs e m) ∧ e ≠ 3 := fun g' e' => by
    injection e' with e'; subst e'
    exact h.typed' he g rfl
  exact ⟨⟨h1, (h.2.1.kept_type h2 hk).setRow hm (OI.kept_type hu h2 hk), h.2.2.setRow hap⟩, h2⟩
end
theorem nthL_set_eq {ls : List (List Int)} {k : Nat} {x : List Int} (h : k < ls.length) : nthL (ls.set k x) k = x := by simp [nthL, List.getD, h]
theorem nthL_set_ne {ls : List (List Int)} {k j : Nat} {x : List Int} (h : k ≠ j) : nthL (ls.set k x) j = nthL ls j := by simp [nthL, List.getD, List.getElem?_set_ne h]
theorem rows_set (ls : List (List Int)) (k : Nat) (x : List Int) : (rows ls).set k (.inr x) = rows (ls.set k x) := by simp [rows, List.map_set]
theorem ext_nthL {a b : List (List Int)} (hl : a.length = b.length) (h : ∀ j, j < a.length → nthL a j = nthL b j) : a = b := by
  refine List.ext_getElem hl fun i h1 h2 => ?_
  have := h i h1
  rwa [nthL_lt h1, nthL_lt h2] at this
/-- A row of nils. -/
theorem nils_OS {w : World} {base b n : Nat} {v : Value} (h : w.ownsRow base 30 1 v n (List.replicate n (.slice none 0 0))) : OS w base b v (List.replicate n []) (List.replicate n (.slice none 0 0)) := by
  unfold OS
  rw [List.length_replicate]
  refine ⟨h, ⟨by simp [rows], fun j x u hx hu => ?_⟩, fun i j a a' hij h1 h2 => ?_⟩
  · have e1 := List.mem_replicate.1 (List.mem_of_getElem? hu)
    have hx2 := List.mem_of_getElem? hx
    simp only [rows, List.map_replicate] at hx2
    have e2 := List.mem_replicate.1 hx2
    rw [e1.2, e2.2]
    exact OI.nil_ _ _
  · have e1 := List.mem_replicate.1 (List.mem_of_getElem? h1)
    rw [e1.2]
    exact .inl rfl

set_option maxHeartbeats 1000000 in
theorem toS_any {A : Option Addr} {n : Nat} {ls : List (List Int)} {w : World} (c : Nat) (hx : RS w A n ls) (hn : n ≤ 1048576) (hs : ∀ k, k < n → (nthL ls k).length ≤ 1048576) :
    Calls Try.prog 16 #[.slice A n c] w (MakesS w ls) := by
  obtain ⟨i0, hi, hz, hs1, hb⟩ := info_parts Try.infoInts
  have HL := Lib.hid hx.1
  go_enter Try.func16, Try.ntmps16
  go_wp2_with (at_make; refine wpList_make_full w rfl _ _ 22 rfl w.heap.size 30 i0 _ 1 Try.underlying22 hi hz hs1 _ _ _ _ n rfl rfl rfl rfl (by rw [hb]; omega) (by simp only [maxLen]; omega) (Nat.le_refl _) ?_; intro w1 hown hgr)
  have hown2 : w1.ownsRow w.heap.size 30 1 (.slice (some ⟨w.heap.size, 0, none⟩) n n) n (List.replicate n (.slice none 0 0)) := by
    have e : (madeCells (Value.slice none 0 0).cells (n * 1)).toList = List.replicate n (.slice none 0 0) := by
      rw [Nat.mul_one]
      unfold madeCells
      simp only [Value.cells]
      refine List.ext_getElem (by simp) fun i h1 h2 => ?_
      simp [Nat.mod_one]
    rw [← e]; exact hown
  have hb1 : Below w.heap.size w w1 := (Below.refl _ _).grown hgr (Nat.le_refl _) (fun k hk => by cases hk)
  have HO1 : Hid (OS w1 w.heap.size w.heap.size (.slice (some ⟨w.heap.size, 0, none⟩) n n) (List.replicate n []) (List.replicate n (.slice none 0 0))) := nils_OS hown2
  have HB1 := Lib.hid hb1
  obtain ⟨g, hg⟩ : ∃ g, g = w.heap.size := ⟨_, rfl⟩
  have HG := Lib.hid hg
  rw [← hg] at HO1 ⊢
  clear hown hown2 hgr hb1 hg hi hz hs1 hb
  go_loopw [4] (fun i wr => ∃ (k : Nat) (l : List (List Int)) (cs : List Value), k ≤ n ∧ i = .int .i64 (k : Int) ∧ l.length = n ∧ Hid (OS wr g g (.slice (some ⟨g, 0, none⟩) n n) l cs) ∧ Hid (∀ j, j < k → nthL l j = nthL ls j) ∧ Hid (Below g w wr)) (fun i _ => n - (intOf i).toNat)
  case atStart => exact ⟨0, _, _, Nat.zero_le _, rfl, by simp, HO1, fun j h => by omega, by show Below g w w1; rw [HG.out]; exact HB1.out⟩
  case round =>
    obtain ⟨k, l, cs, hk, rfl, hl, HO, HT, HB⟩ := hrel
    by_cases hlt : k < n
    · have hbw : Below w.heap.size w wr := by rw [← HG.out]; exact HB.out
      obtain ⟨ad, As, ns, cs', hA, c1, hr, hns⟩ := (hx.below hbw).2 k hlt
      subst hA
      have hls := hs k hlt
      rw [hr.1] at hls
      have hgs : g ≤ wr.heap.size := by rw [HG.out]; exact hbw.size
      clear hbw
      go_wp2_with fail
      refine (toI_any _ hr (by omega)).mono ?_
      rintro e w2 ⟨A2, n2, d2, rfl, o2, r2, ⟨cp2, le2⟩, b2⟩
      have ho2 := HO.out.below b2
      have hkc : k < cs.length := by rw [ho2.1.1, hl]; omega
      obtain ⟨u0, hu0⟩ : ∃ u, cs[k]? = some u := ⟨_, List.getElem?_eq_getElem hkc⟩
      have ho2' := ho2
      unfold OS at ho2'
      rw [hl] at ho2'
      have z0 : w2.cell? ⟨g, k, none⟩ = some u0 := (OF.cellF ho2' (by omega)).trans hu0
      have f0 : w2.frozen? ⟨g, k, none⟩ = false := OF.frozenF ho2' k
      have hap : ∀ u' ∈ cs, u'.ownBlock = none ∨ u'.ownBlock ≠ Value.ownBlock (.slice A2 n2 d2) := fun u' hu' => FRs.apart HO.out.2.1 (FRs.one_ (x := .inr (nthL ls k)) o2) (Nat.le_refl _) u' hu' _ (by simp)
      obtain ⟨h5, h6⟩ := OF.setRow ho2' (by decide) (m := k) (by rw [rows_len]; omega) (o2.mono hgs) hap
      rw [rows_set] at h5
      have HF : Hid (OS (w2.setCell ⟨g, k, none⟩ (.slice A2 n2 d2)) g g (.slice (some ⟨g, 0, none⟩) n n) (l.set k (nthL ls k)) (cs.set k (.slice A2 n2 d2)) ∧ Below g w (w2.setCell ⟨g, k, none⟩ (.slice A2 n2 d2))) := by
        refine ⟨?_, (HB.out.trans (b2.mono hgs)).setCell (Nat.le_refl _) _⟩
        unfold OS
        rw [List.length_set, hl]
        exact h5
      clear ho2 ho2' hu0 hap h5 h6 o2 r2 b2
      go_wp2
      go_roundw
      case rel =>
        refine ⟨k + 1, l.set k (nthL ls k), _, by omega, by go_num, by simp [hl], HF.out.1, ?_, HF.out.2⟩
        intro j hj
        by_cases hjk : k = j
        · subst hjk; rw [nthL_set_eq (by omega)]
        · rw [nthL_set_ne hjk]; exact HT.out j (by omega)
      case measure => simp [intOf]; omega
    · obtain rfl : k = n := by omega
      have e1 : l = ls := ext_nthL (hl.trans HL.out.symm) fun j hj => HT.out j (by omega)
      subst e1
      go_wp2
      go_ret
      have h7 := HO.out
      have h8 := HB.out
      rw [HG.out] at h7 h8 ⊢
      exact MakesS.of h7 h8

theorem eqS_any {A B : Option Addr} {n m : Nat} {ls : List (List Int)} {w : World} (c d : Nat) (hx : RS w A n ls) (hy : RS w B m ls) (hn : n ≤ 1000000000000) :
    Calls Try.prog 18 #[.slice A n c, .slice B m d] w (GivesB w (.bool true)) := by
  obtain rfl : n = m := hx.1.symm.trans hy.1
  go_enter Try.func18, Try.ntmps18
  go_wp2
  go_loopw [5] (fun i wr => ∃ k : Nat, k ≤ n ∧ i = .int .i64 (k : Int) ∧ Hid (Below w.heap.size w wr)) (fun i _ => n - (intOf i).toNat)
  case atStart => exact ⟨0, Nat.zero_le _, rfl, Below.refl _ _⟩
  case round =>
    obtain ⟨k, hk, rfl, HB⟩ := hrel
    by_cases hlt : k < n
    · obtain ⟨ad, As, ns, cs, hA, c1, hr, hns⟩ := (hx.below HB.out).2 k hlt
      obtain ⟨ad', As', ns', cs', hA', c1', hr', hns'⟩ := (hy.below HB.out).2 k hlt
      subst hA hA'
      have HE : Hid (∀ W, Below wr.heap.size wr W → Calls Try.prog 35 #[.slice As ns cs, .slice As' ns' cs'] W (Gives W (.bool true))) := fun W b => eqI_any true _ _ (hr.below b) (hr'.below b) (by simp) hns hns'
      go_wp2_with fail
      go_region_held3 (fun w' => w'.cell? (ad.add k) = some (.slice As ns cs) ∧ w'.cell? (ad'.add k) = some (.slice As' ns' cs')) (first | exact ⟨c1, c1'⟩ | exact ⟨one_cell b2 c1, one_cell b2 c1'⟩) (first
        | (go_at_call 35; (with_reducible refine (HE.out _ ?_).mono ?_); (exact ⟨rfl, rfl, rfl, Nat.le_refl _, fun _ _ => rfl⟩); rintro e w2 ⟨rfl, q2⟩; have b2 : Below wr.heap.size wr w2 := (by have b3 := q2.below (B := wr.heap.size); exact ⟨b3.os, b3.tape, b3.output, b3.size, b3.block⟩)))
      go_wp2
      go_roundw
      case rel => exact ⟨k + 1, by omega, by go_num, bnext HB.out b2 HB.out.size⟩
      case measure => simp [intOf]; omega
    · go_wp2
      go_ret
      exact ⟨rfl, HB.out⟩
end Go.Proofs.Ytmodpicemlkbjaa
