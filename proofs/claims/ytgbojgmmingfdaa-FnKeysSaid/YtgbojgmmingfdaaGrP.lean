/- Products in a box and of small shapes: the lists, how long they are. No program is in sight here. -/
import Derived.Test.YtgbojgmmingfdaaPlain
import Derived.Test.YtgbojgmmingfdaaWords
import Derived.Test.YtgbojgmmingfdaaSmall
namespace Go.Proofs.Ytgbojgmmingfdaa

def natsOf (l : List Int) : List Nat := l.map Int.toNat
theorem fI_natsOf {l : List Int} (h : ∀ j, 0 ≤ nth l j) : (natsOf l).map (fun c : Nat => (c : Int)) = l := by
  refine ext_nth (by simp [natsOf]) fun j hj => ?_
  simp only [natsOf, List.length_map] at hj
  rw [nth_lt (by simp [natsOf]; exact hj)]
  have h1 := h j
  rw [nth_lt hj] at h1
  rw [nth_lt hj]
  simp only [natsOf, List.map_map, List.getElem_map, Function.comp]
  omega
/-- A shape in a box. -/
structure SD (l : List Int) (K M : Nat) : Prop where
  len : l.length ≤ K
  lo : ∀ j, 0 ≤ nth l j
  desc : ∀ j, nth l (j + 1) ≤ nth l j
  top : ∀ j, nth l j ≤ (M : Int)
theorem SD.of {l : List Int} {K M : Nat} (h : isShapeB l = true) (hk : l.length ≤ K) (hm : nth l 0 ≤ (M : Int)) : SD l K M :=
  ⟨hk, fun j => (shape_range h j).1, fun j => by
    rcases Nat.lt_or_ge (j + 1) l.length with h1 | h1
    · unfold isShapeB at h
      rw [Bool.and_eq_true] at h
      have h2 := allB_at h.2 h1
      simp only [shapeAt, Bool.and_eq_true, Bool.or_eq_true, beq_iff_eq, decide_eq_true_eq, Nat.add_sub_cancel] at h2
      rcases h2.2 with h3 | h3
      · omega
      · exact h3
    · rw [nth_ge h1]; exact (shape_range h j).1, fun j => Int.le_trans (shape_desc h j) hm⟩
theorem sumN_le {M : Nat} : ∀ l : List Nat, (∀ c ∈ l, c ≤ M) → sumN l ≤ l.length * M
  | [], _ => by simp [sumN]
  | c :: l, h => by
    have h1 := h c List.mem_cons_self
    have h2 := sumN_le l fun x hx => h x (List.mem_cons_of_mem _ hx)
    simp only [sumN, List.length_cons, Nat.succ_mul]
    omega
theorem SD.nats {l : List Int} {K M : Nat} (h : SD l K M) : ∀ c ∈ natsOf l, c ≤ M := by
  intro c hc
  simp only [natsOf, List.mem_map] at hc
  obtain ⟨x, hx, rfl⟩ := hc
  obtain ⟨j, hj, e⟩ := List.getElem_of_mem hx
  have := h.top j
  rw [nth_lt hj, e] at this
  omega
theorem powN_mono {b : Nat} (hb : 1 ≤ b) {e f : Nat} (h : e ≤ f) : powN b e ≤ powN b f := by
  induction f with
  | zero => obtain rfl : e = 0 := by omega
            exact Nat.le_refl _
  | succ f ih =>
    rcases Nat.lt_or_ge f e with h1 | h1
    · obtain rfl : e = f + 1 := by omega
      exact Nat.le_refl _
    · exact Nat.le_trans (ih h1) (Nat.le_mul_of_pos_left _ hb)
theorem pow_ok : (List.range 8).all (fun k => (List.range (8 - k)).all fun m => decide (powN k (k * m) ≤ 20000000)) = true := by decide +kernel
theorem pow_box {k m : Nat} (h : k + m ≤ 7) : powN k (k * m) ≤ 20000000 := by
  have := pow_ok
  simp only [List.all_eq_true, List.mem_range, decide_eq_true_eq] at this
  exact this k (by omega) m (by omega)
theorem box_len {b s : List Int} {K M : Nat} {most : Int} {u : Option (List Int)} (h : SD b K M) (hKM : K + M ≤ 7) : (layerC K most b s u).length ≤ 20000000 := by
  have h1 := layerC_len (rows := K) (most := most) (natsOf b) s u
  rw [fI_natsOf h.lo] at h1
  refine Nat.le_trans h1 ?_
  have h2 := sumN_le (natsOf b) h.nats
  have h3 : (natsOf b).length ≤ K := by simp only [natsOf, List.length_map]; exact h.len
  have h4 : sumN (natsOf b) ≤ K * M := Nat.le_trans h2 (Nat.mul_le_mul_right _ h3)
  rcases Nat.eq_zero_or_pos K with h0 | h0
  · subst h0
    have : sumN (natsOf b) = 0 := by omega
    rw [this]
    simp [powN]
  · exact Nat.le_trans (powN_mono h0 h4) (pow_box hKM)
theorem addAll_mem {ps : List (List Int × Int)} {N : Int} {x : List Int × Int} (h : Grows ps N) : ∀ (L : List (List Int)), x ∈ addAll ps L → (∃ y ∈ ps, y.1 = x.1) ∨ ∃ s ∈ L, x.1 = bare s := by
  intro L
  induction L generalizing ps N with
  | nil => intro hx; exact .inl ⟨x, hx, rfl⟩
  | cons s L ih =>
    intro hx
    have e : addAll ps (s :: L) = addAll (addP ps (bare s) 1) L := rfl
    rw [e] at hx
    rcases ih (h.add (bare s)) hx with ⟨y, hy, hyx⟩ | ⟨t, ht, htx⟩
    · rcases addP_shapes h.srt (fun z hz => (h.cnt z hz).1) hy with h1 | ⟨z, hz, hzx⟩
      · exact .inr ⟨s, List.mem_cons_self, by rw [← hyx, h1]⟩
      · exact .inl ⟨z, hz, hzx.trans hyx⟩
    · exact .inr ⟨t, List.mem_cons_of_mem _ ht, htx⟩
/-- What a product leaves: few parts, short, few of each. -/
theorem fillB_ok {a b : List Int} {rows : Nat} {most : Int} {M : Nat} (ha : a.length ≤ rows) (hl : (layerC rows most b (padL a rows) none).length ≤ M) :
    (fillB a b rows most).length ≤ M ∧ (∀ x ∈ fillB a b rows most, x.1.length ≤ rows) ∧ Grows (fillB a b rows most) M := by
  have hg := grows_nil.all (layerC rows most b (padL a rows) none)
  rw [Int.zero_add] at hg
  have hg2 : Grows (fillB a b rows most) M := ⟨hg.srt, Int.le_trans hg.len (by omega), fun x hx => by have := hg.cnt x hx; omega⟩
  refine ⟨by have := hg2.len; omega, fun x hx => ?_, hg2⟩
  rcases addAll_mem grows_nil _ hx with ⟨y, hy, _⟩ | ⟨s, hs, e⟩
  · cases hy
  · have := layerC_rows b (padL a rows) none rows (padL_len ha) s hs
    rw [e]
    unfold bare
    rw [List.length_take]
    omega
theorem smallF_16 {ps : List (List Int × Int)} (h : ∀ x ∈ ps, x.1.length ≤ 16) : ∀ x ∈ partF ps, wF x ≤ 16 := by
  intro x hx
  simp only [partF, List.mem_flatMap] at hx
  obtain ⟨p, hp, hx⟩ := hx
  simp at hx
  rcases hx with rfl | rfl
  · exact h p hp
  · simp [wF]
def grOk (a b : List Int) (k n : Int) : Bool := inBoxB a k n && inBoxB b k n
def grB (a b : List Int) (k n : Int) : List (List Int × Int) := if grOk a b k n then fillB a b k.toNat (n - k) else []
theorem grB_no {a b : List Int} {k n : Int} (h : grOk a b k n = false) : grB a b k n = [] := by simp [grB, h]
theorem grB_yes {a b : List Int} {K M : Nat} (h : grOk a b K ((K : Int) + M) = true) : grB a b K ((K : Int) + M) = fillB a b K M := by
  have e : (K : Int) + M - K = M := by omega
  simp [grB, h, e]
theorem box_split {l : List Int} {k n : Int} (h : inBoxB l k n = true) : ∃ K M : Nat, k = K ∧ n = (K : Int) + M ∧ K + M ≤ 7 ∧ SD l K M := by
  obtain ⟨hb1, hb2, hb3, hb4⟩ := inBoxB_iff.1 h
  obtain ⟨⟨b1, b2⟩, b3, b4⟩ := boxB_iff.1 hb1
  obtain ⟨K, rfl⟩ := Int.eq_ofNat_of_zero_le b3
  obtain ⟨M, hM⟩ := Int.eq_ofNat_of_zero_le (a := n - K) (by omega)
  exact ⟨K, M, rfl, by omega, by omega, SD.of hb2 (by omega) (by omega)⟩
theorem SD.box {l : List Int} {K M : Nat} (h : inBoxB l K ((K : Int) + M) = true) : SD l K M := by
  obtain ⟨hb1, hb2, hb3, hb4⟩ := inBoxB_iff.1 h
  exact SD.of hb2 (by omega) (by omega)
theorem grB_small {a b : List Int} {k n : Int} : (grB a b k n).length ≤ 20000000 ∧ ∀ x ∈ grB a b k n, x.1.length ≤ 16 := by
  rcases Bool.eq_false_or_eq_true (grOk a b k n) with h | h
  · have h2 := h
    simp only [grOk, Bool.and_eq_true] at h2
    obtain ⟨K, M, rfl, rfl, hKM, hA⟩ := box_split h2.1
    have hB := SD.box h2.2
    rw [grB_yes h]
    obtain ⟨h3, h4, _⟩ := fillB_ok (a := a) (b := b) (rows := K) (most := M) hA.len (box_len hB hKM)
    exact ⟨h3, fun x hx => Nat.le_trans (h4 x hx) (by omega)⟩
  · rw [grB_no h]; simp
end Go.Proofs.Ytgbojgmmingfdaa

/- Products of small shapes: the lists, how long they are. No program is in sight here. -/
namespace Go.Proofs.Ytgbojgmmingfdaa

theorem sumTo_cons_ (x : Int) (l : List Int) : ∀ n, sumTo (x :: l) (n + 1) = x + sumTo l n
  | 0 => by simp [sumTo, nth, List.getD]
  | n + 1 => by
    show sumTo (x :: l) (n + 1) + nth (x :: l) (n + 1) = x + (sumTo l n + nth l n)
    rw [sumTo_cons_ x l n, show nth (x :: l) (n + 1) = nth l n by simp [nth, List.getD]]
    omega
theorem sumN_eq : ∀ l : List Int, (∀ x ∈ l, 0 ≤ x) → (sumN (natsOf l) : Int) = sumL l
  | [], _ => rfl
  | x :: l, h => by
    have h1 := sumN_eq l fun y hy => h y (List.mem_cons_of_mem _ hy)
    have h2 := h x List.mem_cons_self
    unfold sumL at h1 ⊢
    rw [List.length_cons, sumTo_cons_, ← h1]
    show ((x.toNat + sumN (natsOf l) : Nat) : Int) = _
    omega
def shOk (a b : List Int) : Bool := smallB a && smallB b
def shB (a b : List Int) : List (List Int × Int) := if shOk a b then fillB a b 16 16 else []
theorem shB_no {a b : List Int} (h : shOk a b = false) : shB a b = [] := by simp [shB, h]
theorem shB_yes {a b : List Int} (h : shOk a b = true) : shB a b = fillB a b 16 16 := by simp [shB, h]
theorem smallB_SD {l : List Int} (h : smallB l = true) : SD l 16 16 := by
  have hs := (smallB_shape h).1
  refine SD.of hs ?_ (shape_range hs 0).2
  have h2 := hs
  simp only [isShapeB, Bool.and_eq_true, decide_eq_true_eq] at h2
  exact h2.1
theorem sh_len {b s : List Int} {most : Int} {u : Option (List Int)} (h : smallB b = true) : (layerC 16 most b s u).length ≤ 4294967296 := by
  obtain ⟨hs, h8⟩ := smallB_shape h
  have h1 := layerC_len (rows := 16) (most := most) (natsOf b) s u
  rw [fI_natsOf (fun j => (shape_range hs j).1)] at h1
  refine Nat.le_trans h1 ?_
  have h2 := sumN_eq b fun x hx => by
    obtain ⟨j, hj, e⟩ := List.getElem_of_mem hx
    have := (shape_range hs j).1
    rw [nth_lt hj, e] at this
    exact this
  exact powN_mono (b := 16) (f := 8) (by omega) (by omega)
theorem shB_small {a b : List Int} : (shB a b).length ≤ 4294967296 ∧ ∀ x ∈ shB a b, x.1.length ≤ 16 := by
  rcases Bool.eq_false_or_eq_true (shOk a b) with h | h
  · have h2 := h
    simp only [shOk, Bool.and_eq_true] at h2
    rw [shB_yes h]
    obtain ⟨h3, h4, _⟩ := fillB_ok (a := a) (b := b) (rows := 16) (most := 16) (smallB_SD h2.1).len (sh_len h2.2)
    exact ⟨h3, h4⟩
  · rw [shB_no h]; simp
end Go.Proofs.Ytgbojgmmingfdaa

/- Numbers and lists that the kernel is made to lay out before it goes on. -/
namespace Go.Proofs.Ytgbojgmmingfdaa

def fcN {α : Type} (n : Nat) (k : Nat → α) : α := match n with | 0 => k 0 | m + 1 => k (Nat.succ m)
theorem fcN_eq {α : Type} (n : Nat) (k : Nat → α) : fcN n k = k n := by cases n <;> rfl
def fcI {α : Type} (x : Int) (k : Int → α) : α := match x with | .ofNat n => fcN n fun n => k (.ofNat n) | .negSucc n => fcN n fun n => k (.negSucc n)
theorem fcI_eq {α : Type} (x : Int) (k : Int → α) : fcI x k = k x := by cases x <;> simp [fcI, fcN_eq]
def fcL {α : Type} : List Int → (List Int → α) → α
  | [], k => k []
  | x :: r, k => fcI x fun x => fcL r fun r => k (x :: r)
theorem fcL_eq {α : Type} : ∀ (l : List Int) (k : List Int → α), fcL l k = k l
  | [], k => rfl
  | x :: r, k => by rw [fcL, fcI_eq, fcL_eq r]
def fcP {α : Type} : List (List Int × Int) → (List (List Int × Int) → α) → α
  | [], k => k []
  | x :: r, k => fcL x.1 fun a => fcI x.2 fun b => fcP r fun r => k ((a, b) :: r)
theorem fcP_eq {α : Type} : ∀ (l : List (List Int × Int)) (k : List (List Int × Int) → α), fcP l k = k l
  | [], k => rfl
  | x :: r, k => by rw [fcP, fcL_eq, fcI_eq, fcP_eq r]
def fcK {α : Type} : List (Int × Int) → (List (Int × Int) → α) → α
  | [], k => k []
  | x :: r, k => fcI x.1 fun a => fcI x.2 fun b => fcK r fun r => k ((a, b) :: r)
theorem fcK_eq {α : Type} : ∀ (l : List (Int × Int)) (k : List (Int × Int) → α), fcK l k = k l
  | [], k => rfl
  | x :: r, k => by rw [fcK, fcI_eq, fcI_eq, fcK_eq r]

def roomAt (under : Option (List Int)) (put : List Int) (r : Nat) : Bool := match under with | none => true | some u => decide (0 ≤ nth u r - sumTo put r)
/-- Every row from this one on has room by the row above. -/
def roomB (under : Option (List Int)) (put : List Int) (rows : Nat) : Nat → Bool
  | 0 => true
  | d + 1 => roomAt under put (rows - (d + 1)) && roomB under put rows d
def zeroL : List Int → Bool
  | [] => true
  | x :: r => decide (x = 0) && zeroL r
theorem zeroL_nth : ∀ {l : List Int}, zeroL l = true → ∀ j, nth l j = 0
  | [], _, j => rfl
  | x :: r, h, j => by
    rw [zeroL, Bool.and_eq_true] at h
    obtain ⟨h1, h2⟩ := h
    cases j with
    | zero => exact of_decide_eq_true h1
    | succ j => exact zeroL_nth h2 j
theorem nth_drop' (l : List Int) (q j : Nat) : nth (l.drop q) j = nth l (q + j) := by simp [nth, List.getD]
theorem set_same' {l : List Int} {i : Nat} {x : Int} (h : x = nth l i) : l.set i x = l := by
  rcases Nat.lt_or_ge i l.length with h1 | h1
  · rw [h, nth_lt h1]; exact List.set_getElem_self h1
  · exact List.set_eq_of_length_le h1
/-- What is left where nothing can be put any more. -/
theorem layerR_fin {rows : Nat} {most : Int} {K : List Int → List Int → List (List Int)} {old : List Int} {under : Option (List Int)} (hm : 0 ≤ most) {shape put : List Int} {q : Nat} (hq : 1 ≤ q) (ho : ∀ j, q - 1 ≤ j → nth old j = 0) (hp : ∀ j, q ≤ j → nth put j = 0) {left : Int} (hl : 0 ≤ left) :
    ∀ d, q + d = rows → ∀ e, e ≤ d → layerR rows most K old under e shape left put = if 0 < left then [] else if roomB under put rows e then K shape put else [] := by
  intro d hd e
  induction e with
  | zero =>
    intro _
    rw [layerR]
    rfl
  | succ e ih =>
    intro he
    have hr : q ≤ rows - (e + 1) := by omega
    have h0 := ho (rows - (e + 1)) (by omega)
    have h1 := ho (rows - (e + 1) - 1) (by omega)
    have h2 := hp (rows - (e + 1)) hr
    have hne : rows - (e + 1) ≠ 0 := by omega
    have hput : put.set (rows - (e + 1)) ((0 : Nat) : Int) = put := set_same' h2.symm
    have hsh : shape.set (rows - (e + 1)) (nth shape (rows - (e + 1)) + ((0 : Nat) : Int)) = shape := set_same' (by simp)
    rw [layerR]
    show _ = if 0 < left then [] else if (roomAt under put (rows - (e + 1)) && roomB under put rows e) = true then K shape put else []
    have key : (mostAt most old under put left (rows - (e + 1)) + 1).toNat = if roomAt under put (rows - (e + 1)) = true then 1 else 0 := by
      unfold mostAt roomAt
      simp only [h0, h1, if_neg hne]
      cases under with
      | none => simp; omega
      | some u =>
        simp only [decide_eq_true_eq]
        split <;> omega
    rw [key]
    split
    · rename_i h
      rw [h, Bool.true_and]
      show (List.range 1).flatMap _ = _
      rw [show List.range 1 = [0] from rfl, List.flatMap_cons, List.flatMap_nil, List.append_nil, hput, hsh]
      have := ih (by omega)
      simpa using this
    · rename_i h
      have h' : roomAt under put (rows - (e + 1)) = false := by simpa using h
      rw [h', Bool.false_and]
      simp
def layerRF (rows : Nat) (most : Int) (K : List Int → List Int → List (List Int)) (old : List Int) (under : Option (List Int)) : Nat → List Int → Int → List Int → List (List Int)
  | 0, shape, left, put => if 0 < left then [] else K shape put
  | d + 1, shape, left, put =>
    if (decide (1 ≤ rows - (d + 1)) && (zeroL (old.drop (rows - (d + 1) - 1)) && (zeroL (put.drop (rows - (d + 1))) && decide (0 ≤ left)))) = true then (if 0 < left then [] else if roomB under put rows (d + 1) then K shape put else [])
    else (List.range (mostAt most old under put left (rows - (d + 1)) + 1).toNat).flatMap fun (n : Nat) =>
      layerRF rows most K old under d (shape.set (rows - (d + 1)) (nth shape (rows - (d + 1)) + (n : Int))) (left - (n : Int)) (put.set (rows - (d + 1)) (n : Int))
theorem layerRF_eq {rows : Nat} {most : Int} (hm : 0 ≤ most) (K : List Int → List Int → List (List Int)) (old : List Int) (under : Option (List Int)) : ∀ (d : Nat) (shape : List Int) (left : Int) (put : List Int), d ≤ rows → layerRF rows most K old under d shape left put = layerR rows most K old under d shape left put
  | 0, shape, left, put, _ => rfl
  | d + 1, shape, left, put, hd => by
    rw [layerRF]
    split
    · rename_i h
      simp only [Bool.and_eq_true, decide_eq_true_eq] at h
      obtain ⟨h1, h2, h3, h4⟩ := h
      refine (layerR_fin hm (q := rows - (d + 1)) h1 (fun j hj => ?_) (fun j hj => ?_) h4 (d + 1) (by omega) (d + 1) (Nat.le_refl _)).symm
      · have := zeroL_nth h2 (j - (rows - (d + 1) - 1))
        rw [nth_drop'] at this
        rw [show j = rows - (d + 1) - 1 + (j - (rows - (d + 1) - 1)) by omega]
        exact this
      · have := zeroL_nth h3 (j - (rows - (d + 1)))
        rw [nth_drop'] at this
        rw [show j = rows - (d + 1) + (j - (rows - (d + 1))) by omega]
        exact this
    · rw [layerR]
      congr 1
      funext n
      rw [layerRF_eq hm K old under d _ _ _ (by omega)]
def layerCF (rows : Nat) (most : Int) : List Int → List Int → Option (List Int) → List (List Int)
  | [], shape, _ => [shape]
  | c :: rest, shape, under => layerRF rows most (fun s p => fcL s fun s => fcL p fun p => layerCF rows most rest s (some (prefs p rows))) shape under rows shape c (List.replicate rows 0)
theorem layerCF_eq {rows : Nat} {most : Int} (hm : 0 ≤ most) : ∀ (b shape : List Int) (under : Option (List Int)), layerCF rows most b shape under = layerC rows most b shape under
  | [], shape, under => rfl
  | c :: rest, shape, under => by
    rw [layerCF, layerC, layerRF_eq hm _ _ _ _ _ _ _ (Nat.le_refl _)]
    congr 1
    funext s p
    rw [fcL_eq, fcL_eq, layerCF_eq hm rest]
def addAllF : List (List Int × Int) → List (List Int) → List (List Int × Int)
  | acc, [] => acc
  | acc, s :: l => fcL (bare s) fun t => fcP (addP acc t 1) fun a => addAllF a l
theorem addAllF_eq : ∀ (l : List (List Int)) (acc : List (List Int × Int)), addAllF acc l = addAll acc l
  | [], acc => rfl
  | s :: l, acc => by rw [addAllF, fcL_eq, fcP_eq, addAllF_eq l]; rfl
def shF (a b : List Int) : List (List Int × Int) := if shOk a b then fcL (padL a 16) fun s => addAllF [] (layerCF 16 16 b s none) else []
theorem shF_eq (a b : List Int) : shF a b = shB a b := by
  unfold shF shB
  split
  · rw [fcL_eq, addAllF_eq, layerCF_eq (by omega)]; rfl
  · rfl
end Go.Proofs.Ytgbojgmmingfdaa
