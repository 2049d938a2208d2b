/- Products in a box and of small shapes: the lists, how long they are. No program is in sight here. -/
import Derived.Test.YtgbojgmmingfdaaPlain
import Derived.Test.YtgbojgmmingfdaaWords
import Derived.Test.YtgbojgmmingfdaaSmall
namespace Go.Proofs.Ytgbojgmmingfdaa

def natsOf (l : List Int) : List Nat := l.map Int.toNat
theorem fI_natsOf {l : List Int} (h : ∀ j, 0 ≤ nth l j) : (natsOf l).map (fun c : Nat => (c : Int)) = l := by
  refine ext_nth (by simp [natsOf]) fun j hj => ?_
  simp only [natsOf, List.length_map] at hj
  rw [nth_lt (by simp [natsOf]; exact hj)]
  have h1 := h j
  rw [nth_lt hj] at h1
  rw [nth_lt hj]
  simp only [natsOf, List.map_map, List.getElem_map, Function.comp]
  omega
/-- A shape in a box. -/
structure SD (l : List Int) (K M : Nat) : Prop where
  len : l.length ≤ K
  lo : ∀ j, 0 ≤ nth l j
  desc : ∀ j, nth l (j + 1) ≤ nth l j
  top : ∀ j, nth l j ≤ (M : Int)
theorem SD.of {l : List Int} {K M : Nat} (h : isShapeB l = true) (hk : l.length ≤ K) (hm : nth l 0 ≤ (M : Int)) : SD l K M :=
  ⟨hk, fun j => (shape_range h j).1, fun j => by
    rcases Nat.lt_or_ge (j + 1) l.length with h1 | h1
    · unfold isShapeB at h
      rw [Bool.and_eq_true] at h
      have h2 := allB_at h.2 h1
      simp only [shapeAt, Bool.and_eq_true, Bool.or_eq_true, beq_iff_eq, decide_eq_true_eq, Nat.add_sub_cancel] at h2
      rcases h2.2 with h3 | h3
      · omega
      · exact h3
    · rw [nth_ge h1]; exact (shape_range h j).1, fun j => Int.le_trans (shape_desc h j) hm⟩
theorem sumN_le {M : Nat} : ∀ l : List Nat, (∀ c ∈ l, c ≤ M) → sumN l ≤ l.length * M
  | [], _ => by simp [sumN]
  | c :: l, h => by
    have h1 := h c List.mem_cons_self
    have h2 := sumN_le l fun x hx => h x (List.mem_cons_of_mem _ hx)
    simp only [sumN, List.length_cons, Nat.succ_mul]
    omega
theorem SD.nats {l : List Int} {K M : Nat} (h : SD l K M) : ∀ c ∈ natsOf l, c ≤ M := by
  intro c hc
  simp only [natsOf, List.mem_map] at hc
  obtain ⟨x, hx, rfl⟩ := hc
  obtain ⟨j, hj, e⟩ := List.getElem_of_mem hx
  have := h.top j
  rw [nth_lt hj, e] at this
  omega
theorem powN_mono {b : Nat} (hb : 1 ≤ b) {e f : Nat} (h : e ≤ f) : powN b e ≤ powN b f := by
  induction f with
  | zero => obtain rfl : e = 0 := by omega
            exact Nat.le_refl _
  | succ f ih =>
    rcases Nat.lt_or_ge f e with h1 | h1
    · obtain rfl : e = f + 1 := by omega
      exact Nat.le_refl _
    · exact Nat.le_trans (ih h1) (Nat.le_mul_of_pos_left _ hb)
theorem pow_ok : (List.range 8).all (fun k => (List.range (8 - k)).all fun m => decide (powN k (k * m) ≤ 20000000)) = true := by decide +kernel
theorem pow_box {k m : Nat} (h : k + m ≤ 7) : powN k (k * m) ≤ 20000000 := by
  have := pow_ok
  simp only [List.all_eq_true, List.mem_range, decide_eq_true_eq] at this
  exact this k (by omega) m (by omega)
theorem box_len {b s : List Int} {K M : Nat} {most : Int} {u : Option (List Int)} (h : SD b K M) (hKM : K + M ≤ 7) : (layerC K most b s u).length ≤ 20000000 := by
  have h1 := layerC_len (rows := K) (most := most) (natsOf b) s u
  rw [fI_natsOf h.lo] at h1
  refine Nat.le_trans h1 ?_
  have h2 := sumN_le (natsOf b) h.nats
  have h3 : (natsOf b).length ≤ K := by simp only [natsOf, List.length_map]; exact h.len
  have h4 : sumN (natsOf b) ≤ K * M := Nat.le_trans h2 (Nat.mul_le_mul_right _ h3)
  rcases Nat.eq_zero_or_pos K with h0 | h0
  · subst h0
    have : sumN (natsOf b) = 0 := by omega
    rw [this]
    simp [powN]
  · exact Nat.le_trans (powN_mono h0 h4) (pow_box hKM)
theorem addAll_mem {ps : List (List Int × Int)} {N : Int} {x : List Int × Int} (h : Grows ps N) : ∀ (L : List (List Int)), x ∈ addAll ps L → (∃ y ∈ ps, y.1 = x.1) ∨ ∃ s ∈ L, x.1 = bare s := by
  intro L
  induction L generalizing ps N with
  | nil => intro hx; exact .inl ⟨x, hx, rfl⟩
  | cons s L ih =>
    intro hx
    have e : addAll ps (s :: L) = addAll (addP ps (bare s) 1) L := rfl
    rw [e] at hx
    rcases ih (h.add (bare s)) hx with ⟨y, hy, hyx⟩ | ⟨t, ht, htx⟩
    · rcases addP_shapes h.srt (fun z hz => (h.cnt z hz).1) hy with h1 | ⟨z, hz, hzx⟩
      · exact .inr ⟨s, List.mem_cons_self, by rw [← hyx, h1]⟩
      · exact .inl ⟨z, hz, hzx.trans hyx⟩
    · exact .inr ⟨t, List.mem_cons_of_mem _ ht, htx⟩
/-- What a product leaves: few parts, short, few of each. -/
theorem fillB_ok {a b : List Int} {rows : Nat} {most : Int} {M : Nat} (ha : a.length ≤ rows) (hl : (layerC rows most b (padL a rows) none).length ≤ M) :
    (fillB a b rows most).length ≤ M ∧ (∀ x ∈ fillB a b rows most, x.1.length ≤ rows) ∧ Grows (fillB a b rows most) M := by
  have hg := grows_nil.all (layerC rows most b (padL a rows) none)
  rw [Int.zero_add] at hg
  have hg2 : Grows (fillB a b rows most) M := ⟨hg.srt, Int.le_trans hg.len (by omega), fun x hx => by have := hg.cnt x hx; omega⟩
  refine ⟨by have := hg2.len; omega, fun x hx => ?_, hg2⟩
  rcases addAll_mem grows_nil _ hx with ⟨y, hy, _⟩ | ⟨s, hs, e⟩
  · cases hy
  · have := layerC_rows b (padL a rows) none rows (padL_len ha) s hs
    rw [e]
    unfold bare
    rw [List.length_take]
    omega
theorem smallF_16 {ps : List (List Int × Int)} (h : ∀ x ∈ ps, x.1.length ≤ 16) : ∀ x ∈ partF ps, wF x ≤ 16 := by
  intro x hx
  simp only [partF, List.mem_flatMap] at hx
  obtain ⟨p, hp, hx⟩ := hx
  simp at hx
  rcases hx with rfl | rfl
  · exact h p hp
  · simp [wF]
def grOk (a b : List Int) (k n : Int) : Bool := inBoxB a k n && inBoxB b k n
def grB (a b : List Int) (k n : Int) : List (List Int × Int) := if grOk a b k n then fillB a b k.toNat (n - k) else []
theorem grB_no {a b : List Int} {k n : Int} (h : grOk a b k n = false) : grB a b k n = [] := by simp [grB, h]
theorem grB_yes {a b : List Int} {K M : Nat} (h : grOk a b K ((K : Int) + M) = true) : grB a b K ((K : Int) + M) = fillB a b K M := by
  have e : (K : Int) + M - K = M := by omega
  simp [grB, h, e]
theorem box_split {l : List Int} {k n : Int} (h : inBoxB l k n = true) : ∃ K M : Nat, k = K ∧ n = (K : Int) + M ∧ K + M ≤ 7 ∧ SD l K M := by
  obtain ⟨hb1, hb2, hb3, hb4⟩ := inBoxB_iff.1 h
  obtain ⟨⟨b1, b2⟩, b3, b4⟩ := boxB_iff.1 hb1
  obtain ⟨K, rfl⟩ := Int.eq_ofNat_of_zero_le b3
  obtain ⟨M, hM⟩ := Int.eq_ofNat_of_zero_le (a := n - K) (by omega)
  exact ⟨K, M, rfl, by omega, by omega, SD.of hb2 (by omega) (by omega)⟩
theorem SD.box {l : List Int} {K M : Nat} (h : inBoxB l K ((K : Int) + M) = true) : SD l K M := by
  obtain ⟨hb1, hb2, hb3, hb4⟩ := inBoxB_iff.1 h
  exact SD.of hb2 (by omega) (by omega)
theorem grB_small {a b : List Int} {k n : Int} : (grB a b k n).length ≤ 20000000 ∧ ∀ x ∈ grB a b k n, x.1.length ≤ 16 := by
  rcases Bool.eq_false_or_eq_true (grOk a b k n) with h | h
  · have h2 := h
    simp only [grOk, Bool.and_eq_true] at h2
    obtain ⟨K, M, rfl, rfl, hKM, hA⟩ := box_split h2.1
    have hB := SD.box h2.2
    rw [grB_yes h]
    obtain ⟨h3, h4, _⟩ := fillB_ok (a := a) (b := b) (rows := K) (most := M) hA.len (box_len hB hKM)
    exact ⟨h3, fun x hx => Nat.le_trans (h4 x hx) (by omega)⟩
  · rw [grB_no h]; simp
end Go.Proofs.Ytgbojgmmingfdaa

/- Products of small shapes: the lists, how long they are. No program is in sight here. -/
namespace Go.Proofs.Ytgbojgmmingfdaa

theorem sumTo_cons_ (x : Int) (l : List Int) : ∀ n, sumTo (x :: l) (n + 1) = x + sumTo l n
  | 0 => by simp [sumTo, nth, List.getD]
  | n + 1 => by
    show sumTo (x :: l) (n + 1) + nth (x :: l) (n + 1) = x + (sumTo l n + nth l n)
    rw [sumTo_cons_ x l n, show nth (x :: l) (n + 1) = nth l n by simp [nth, List.getD]]
    omega
theorem sumN_eq : ∀ l : List Int, (∀ x ∈ l, 0 ≤ x) → (sumN (natsOf l) : Int) = sumL l
  | [], _ => rfl
  | x :: l, h => by
    have h1 := sumN_eq l fun y hy => h y (List.mem_cons_of_mem _ hy)
    have h2 := h x List.mem_cons_self
    unfold sumL at h1 ⊢
    rw [List.length_cons, sumTo_cons_, ← h1]
    show ((x.toNat + sumN (natsOf l) : Nat) : Int) = _
    omega
def shOk (a b : List Int) : Bool := smallB a && smallB b
def shB (a b : List Int) : List (List Int × Int) := if shOk a b then fillB a b 16 16 else []
theorem shB_no {a b : List Int} (h : shOk a b = false) : shB a b = [] := by simp [shB, h]
theorem shB_yes {a b : List Int} (h : shOk a b = true) : shB a b = fillB a b 16 16 := by simp [shB, h]
theorem smallB_SD {l : List Int} (h : smallB l = true) : SD l 16 16 := by
  have hs := (smallB_shape h).1
  refine SD.of hs ?_ (shape_range hs 0).2
  have h2 := hs
  simp only [isShapeB, Bool.and_eq_true, decide_eq_true_eq] at h2
  exact h2.1
theorem sh_len {b s : List Int} {most : Int} {u : Option (List Int)} (h : smallB b = true) : (layerC 16 most b s u).length ≤ 4294967296 := by
  obtain ⟨hs, h8⟩ := smallB_shape h
  have h1 := layerC_len (rows := 16) (most := most) (natsOf b) s u
  rw [fI_natsOf (fun j => (shape_range hs j).1)] at h1
  refine Nat.le_trans h1 ?_
  have h2 := sumN_eq b fun x hx => by
    obtain ⟨j, hj, e⟩ := List.getElem_of_mem hx
    have := (shape_range hs j).1
    rw [nth_lt hj, e] at this
    exact this
  exact powN_mono (b := 16) (f := 8) (by omega) (by omega)
theorem shB_small {a b : List Int} : (shB a b).length ≤ 4294967296 ∧ ∀ x ∈ shB a b, x.1.length ≤ 16 := by
  rcases Bool.eq_false_or_eq_true (shOk a b) with h | h
  · have h2 := h
    simp only [shOk, Bool.and_eq_true] at h2
    rw [shB_yes h]
    obtain ⟨h3, h4, _⟩ := fillB_ok (a := a) (b := b) (rows := 16) (most := 16) (smallB_SD h2.1).len (sh_len h2.2)
    exact ⟨h3, h4⟩
  · rw [shB_no h]; simp
end Go.Proofs.Ytgbojgmmingfdaa
