/- Lists of keys with coefficients, gathered; the plain law of Schur polynomials, to its end. No program is in sight here. -/
import Derived.Test.YtgbojgmmingfdaaSchurP
namespace Go.Proofs.Ytgbojgmmingfdaa

/-- The coefficient of a key. -/
def coefK (l : List (Int × Int)) (k : Int) : Int := (l.map fun x => if x.1 = k then x.2 else 0).sum
theorem coefK_nil (k : Int) : coefK [] k = 0 := rfl
theorem coefK_cons (x : Int × Int) (l : List (Int × Int)) (k : Int) : coefK (x :: l) k = (if x.1 = k then x.2 else 0) + coefK l k := by simp [coefK]
theorem coefK_append (a b : List (Int × Int)) (k : Int) : coefK (a ++ b) k = coefK a k + coefK b k := by simp [coefK, List.sum_append]
theorem sum_perm {a b : List Int} (h : a.Perm b) : a.sum = b.sum := by
  induction h with
  | nil => rfl
  | cons x _ ih => simp [ih]
  | swap x y l => simp; omega
  | trans _ _ h1 h2 => exact h1.trans h2
theorem coefK_perm {a b : List (Int × Int)} (h : a.Perm b) (k : Int) : coefK a k = coefK b k := sum_perm (h.map _)
theorem coefK_flatMap {α : Type} (f : α → List (Int × Int)) (k : Int) : ∀ l : List α, coefK (l.flatMap f) k = (l.map fun a => coefK (f a) k).sum
  | [] => rfl
  | a :: l => by rw [List.flatMap_cons, coefK_append, coefK_flatMap f k l, List.map_cons, List.sum_cons]
theorem coefK_shift (l : List (Int × Int)) (d k : Int) : coefK (l.map fun x => (x.1 + d, x.2)) k = coefK l (k - d) := by
  unfold coefK
  rw [List.map_map]
  congr 1
  refine List.map_congr_left fun x _ => ?_
  simp only [Function.comp]
  by_cases h : x.1 + d = k
  · rw [if_pos h, if_pos (by omega)]
  · rw [if_neg h, if_neg (by omega)]
theorem coefK_none {l : List (Int × Int)} {k : Int} (h : ∀ x ∈ l, x.1 ≠ k) : coefK l k = 0 := by
  induction l with
  | nil => rfl
  | cons x l ih => rw [coefK_cons, if_neg (h x (by simp)), ih fun y hy => h y (List.mem_cons_of_mem _ hy)]; rfl
def insK (k c : Int) : List (Int × Int) → List (Int × Int)
  | [] => if c = 0 then [] else [(k, c)]
  | x :: r => if k < x.1 then x :: insK k c r else if x.1 = k then (if x.2 + c = 0 then r else (k, x.2 + c) :: r) else if c = 0 then x :: r else (k, c) :: x :: r
/-- Terms in descending order, those that are alike added, none of them nought. -/
def gatherK (l : List (Int × Int)) : List (Int × Int) := l.foldr (fun x r => insK x.1 x.2 r) []
def SrtK (l : List (Int × Int)) : Prop := l.Pairwise (fun x y => y.1 < x.1) ∧ ∀ x ∈ l, x.2 ≠ 0
theorem srtK_tail {x : Int × Int} {r : List (Int × Int)} (h : SrtK (x :: r)) : SrtK r ∧ (∀ y ∈ r, y.1 < x.1) ∧ x.2 ≠ 0 := by
  obtain ⟨h1, h2⟩ := h
  rw [List.pairwise_cons] at h1
  exact ⟨⟨h1.2, fun y hy => h2 y (List.mem_cons_of_mem _ hy)⟩, h1.1, h2 x (by simp)⟩
theorem srtK_mk {x : Int × Int} {r : List (Int × Int)} (h1 : SrtK r) (h2 : ∀ y ∈ r, y.1 < x.1) (h3 : x.2 ≠ 0) : SrtK (x :: r) :=
  ⟨List.pairwise_cons.2 ⟨h2, h1.1⟩, fun y hy => (List.mem_cons.1 hy).elim (fun e => by rw [e]; exact h3) fun h => h1.2 y h⟩
theorem insK_key {k c : Int} : ∀ {l : List (Int × Int)} {x : Int × Int}, x ∈ insK k c l → x ∈ l ∨ x.1 = k
  | [], x, h => by
    rw [insK] at h
    split at h
    · cases h
    · rw [List.mem_singleton.1 h]; exact .inr rfl
  | y :: r, x, h => by
    rw [insK] at h
    split at h
    · rcases List.mem_cons.1 h with h | h
      · exact .inl (by rw [h]; simp)
      · exact (insK_key h).imp (List.mem_cons_of_mem _) id
    · split at h
      · split at h
        · exact .inl (List.mem_cons_of_mem _ h)
        · rcases List.mem_cons.1 h with h | h
          · exact .inr (by rw [h])
          · exact .inl (List.mem_cons_of_mem _ h)
      · split at h
        · exact .inl h
        · rcases List.mem_cons.1 h with h | h
          · exact .inr (by rw [h])
          · exact .inl h
theorem insK_srt {k c : Int} : ∀ {l : List (Int × Int)}, SrtK l → SrtK (insK k c l)
  | [], h => by
    rw [insK]
    split
    · exact h
    · rename_i hc
      exact srtK_mk h (by simp) hc
  | x :: r, h => by
    obtain ⟨h1, h2, h3⟩ := srtK_tail h
    rw [insK]
    split
    · rename_i hk
      refine srtK_mk (insK_srt h1) (fun y hy => ?_) h3
      rcases insK_key hy with hy | hy
      · exact h2 y hy
      · omega
    · split
      · rename_i hk
        split
        · exact h1
        · rename_i hc
          exact srtK_mk h1 (fun y hy => by have := h2 y hy; simp only; omega) hc
      · split
        · exact h
        · rename_i hk1 hk2 hc
          refine srtK_mk h (fun y hy => ?_) hc
          rcases List.mem_cons.1 hy with rfl | hy
          · simp only; omega
          · have := h2 y hy; simp only; omega
theorem insK_coef {k c : Int} : ∀ {l : List (Int × Int)} (j : Int), coefK (insK k c l) j = coefK l j + if k = j then c else 0
  | [], j => by
    rw [insK]
    split
    · rename_i h; simp [coefK, h]
    · simp [coefK]
  | x :: r, j => by
    rw [insK]
    split
    · rw [coefK_cons, coefK_cons, insK_coef j]; omega
    · split
      · rename_i h1 h2
        split
        · rename_i h3
          rw [coefK_cons, h2]
          split <;> omega
        · rw [coefK_cons, coefK_cons, h2]
          split <;> simp <;> omega
      · split
        · rename_i h; rw [h]; simp
        · rw [coefK_cons]
          simp only
          omega
theorem gatherK_srt (l : List (Int × Int)) : SrtK (gatherK l) := by
  induction l with
  | nil => exact ⟨List.Pairwise.nil, by simp [gatherK]⟩
  | cons x l ih => exact insK_srt ih
theorem gatherK_coef (l : List (Int × Int)) (j : Int) : coefK (gatherK l) j = coefK l j := by
  induction l with
  | nil => rfl
  | cons x l ih =>
    show coefK (insK x.1 x.2 (gatherK l)) j = _
    rw [insK_coef, ih, coefK_cons]; omega
theorem coefK_head {x : Int × Int} {r : List (Int × Int)} (h : ∀ y ∈ r, y.1 < x.1) : coefK (x :: r) x.1 = x.2 := by
  rw [coefK_cons, if_pos rfl, coefK_none fun y hy => by have := h y hy; omega]; omega
/-- There is but one such list. -/
theorem srtK_uniq : ∀ {a b : List (Int × Int)}, SrtK a → SrtK b → (∀ k, coefK a k = coefK b k) → a = b
  | [], [], _, _, _ => rfl
  | [], y :: s, _, hb, h => by
    obtain ⟨b1, b2, b3⟩ := srtK_tail hb
    have := h y.1
    rw [coefK_nil, coefK_head b2] at this
    exact absurd this.symm b3
  | x :: r, [], ha, _, h => by
    obtain ⟨a1, a2, a3⟩ := srtK_tail ha
    have := h x.1
    rw [coefK_nil, coefK_head a2] at this
    exact absurd this a3
  | x :: r, y :: s, ha, hb, h => by
    obtain ⟨a1, a2, a3⟩ := srtK_tail ha
    obtain ⟨b1, b2, b3⟩ := srtK_tail hb
    have hk : x.1 = y.1 := by
      rcases Int.lt_trichotomy x.1 y.1 with hlt | heq | hgt
      · have e := h y.1
        rw [coefK_head b2, coefK_none (l := x :: r) fun z hz => by
          rcases List.mem_cons.1 hz with rfl | hz
          · omega
          · have := a2 z hz; omega] at e
        exact absurd e.symm b3
      · exact heq
      · have e := h x.1
        rw [coefK_head a2, coefK_none (l := y :: s) fun z hz => by
          rcases List.mem_cons.1 hz with rfl | hz
          · omega
          · have := b2 z hz; omega] at e
        exact absurd e a3
    have hc : x.2 = y.2 := by
      have e := h x.1
      rw [coefK_head a2, hk, coefK_head b2] at e
      exact e
    have hxy : x = y := Prod.ext hk hc
    rw [hxy]
    congr 1
    refine srtK_uniq a1 b1 fun k => ?_
    have e := h k
    rw [coefK_cons, coefK_cons, hxy] at e
    omega
theorem gatherK_is {l m : List (Int × Int)} (hm : SrtK m) (h : ∀ k, coefK m k = coefK l k) : m = gatherK l := srtK_uniq hm (gatherK_srt l) fun k => by rw [h, gatherK_coef]
theorem gatherK_perm {a b : List (Int × Int)} (h : a.Perm b) : gatherK a = gatherK b := srtK_uniq (gatherK_srt a) (gatherK_srt b) fun k => by rw [gatherK_coef, gatherK_coef, coefK_perm h]
/-! ### Schur polynomials -/
def schurK : Nat → List Int → List (Int × Int)
  | 0, ms => if 0 < ms.length then [] else [(0, 1)]
  | n + 1, ms => if n + 1 < ms.length then [] else if ms.length = 0 then [(0, 1)] else
    gatherK ((stripsR ms).flatMap fun mu => (schurK n (bare mu)).map fun x => (x.1 + (ms.sum - (bare mu).sum) * 128 ^ n, x.2))
/-- How often a key is among keys. -/
def cntK (l : List Int) (k : Int) : Int := coefK (l.map fun x => (x, 1)) k
def Pos (l : List Int) : Prop := ∀ j, j < l.length → 1 ≤ nth l j
theorem desc_take : ∀ (l : List Int) (k : Nat), Desc l → Desc (l.take k)
  | [], k, _ => by simp [Desc]
  | a :: l, 0, _ => by simp [Desc]
  | a :: l, k + 1, h => by
    obtain ⟨a1, a2, a3⟩ := h
    refine ⟨?_, a2, desc_take l k a3⟩
    by_cases h : 0 < k
    · rw [nth_take h]; exact a1
    · rw [show k = 0 by omega]; exact a2
theorem strips_bare {ms mu : List Int} (hd : Desc ms) (hp : Pos ms) (h : mu ∈ stripsR ms) : Desc (bare mu) ∧ Pos (bare mu) := by
  obtain ⟨d1, d2, d3⟩ := strips_desc hd h
  have hb : (bare mu).length = bareLen mu mu.length := by unfold bare; rw [List.length_take]; have := bareLen_le mu mu.length; omega
  refine ⟨desc_take mu _ d1, fun j hj => ?_⟩
  rw [hb] at hj
  have hle := bareLen_le mu mu.length
  unfold bare
  rw [nth_take hj]
  by_cases hj2 : j + 1 < ms.length
  · have := (d3 j).1
    have := hp (j + 1) hj2
    omega
  · have h1 := bareLen_last mu mu.length (by omega)
    rw [show bareLen mu mu.length - 1 = j by omega] at h1
    have h2 := (d3 j).1
    rw [nth_ge (l := ms) (by omega)] at h2
    omega
theorem schurK_srt : ∀ (n : Nat) (ms : List Int), SrtK (schurK n ms)
  | 0, ms => by
    rw [schurK]
    split
    · exact ⟨List.Pairwise.nil, by simp⟩
    · exact ⟨List.pairwise_singleton _ _, by simp⟩
  | n + 1, ms => by
    rw [schurK]
    split
    · exact ⟨List.Pairwise.nil, by simp⟩
    · split
      · exact ⟨List.pairwise_singleton _ _, by simp⟩
      · exact gatherK_srt _
theorem schurK_coef : ∀ (n : Nat) (ms : List Int), Desc ms → Pos ms → ∀ k, coefK (schurK n ms) k = cntK (keysS ms n) k
  | 0, ms, hd, hp, k => by
    rw [schurK]
    split
    · rename_i h
      rw [keysS_none hd hp h]; rfl
    · rename_i h
      obtain rfl : ms = [] := List.eq_nil_of_length_eq_zero (by omega)
      rfl
  | n + 1, ms, hd, hp, k => by
    rw [schurK]
    split
    · rename_i h
      rw [keysS_none hd hp h]; rfl
    · split
      · rename_i h
        obtain rfl : ms = [] := List.eq_nil_of_length_eq_zero h
        rfl
      · rw [gatherK_coef, coefK_flatMap]
        have e := keysS_cut (n := n) hd
        unfold cntK
        rw [show ((n + 1 : Nat) : Int) = (n : Int) + 1 by omega, coefK_perm (e.map _), List.map_flatMap, coefK_flatMap]
        congr 1
        refine List.map_congr_left fun mu hmu => ?_
        obtain ⟨b1, b2⟩ := strips_bare hd hp hmu
        rw [coefK_shift, schurK_coef n (bare mu) b1 b2, List.map_map]
        unfold cntK
        rw [← coefK_shift, List.map_map]
        rfl
/-! ### how many tableaux -/
theorem upI_len (k : Int) (m : Nat) : (upI k m).length = m := by
  induction m generalizing k with
  | zero => rfl
  | succ m ih => rw [upI, List.length_cons, ih]
theorem flatMap_len {α β : Type} {f : α → List β} {b : Nat} : ∀ {l : List α}, (∀ a ∈ l, (f a).length ≤ b) → (l.flatMap f).length ≤ l.length * b
  | [], _ => by simp
  | a :: l, h => by
    rw [List.flatMap_cons, List.length_append, List.length_cons, Nat.add_mul, Nat.one_mul]
    have h1 := h a (by simp)
    have h2 := flatMap_len (l := l) fun b hb => h b (List.mem_cons_of_mem _ hb)
    omega
theorem rowR_len {n : Nat} {p : List Int} : ∀ (k : Nat) (acc : List Int), (∀ x ∈ acc, 0 ≤ x) → (rowR n p k acc).length ≤ n ^ k
  | 0, acc, _ => by rw [rowR]; simp
  | k + 1, acc, h => by
    have h0 : 0 ≤ lowR p acc := by
      unfold lowR
      have : (0 : Int) ≤ if acc.length = 0 then 0 else nth acc (acc.length - 1) := by
        split
        · omega
        · exact h _ (nth_mem (by omega))
      omega
    rw [rowR]
    refine Nat.le_trans (flatMap_len (b := n ^ k) fun x hx => ?_) ?_
    · have hx := upI_mem.1 hx
      exact rowR_len k (acc ++ [x]) fun y hy => by
        rcases List.mem_append.1 hy with hy | hy
        · exact h y hy
        · rw [List.mem_singleton.1 hy]; omega
    · rw [upI_len, Nat.pow_succ, Nat.mul_comm]
      exact Nat.mul_le_mul_left _ (by omega)
theorem tabR_len {n : Nat} : ∀ (ms p : List Int), (tabR n p ms).length ≤ n ^ (ms.map Int.toNat).sum
  | [], p => by rw [tabR]; simp
  | m :: ms, p => by
    rw [tabR, List.map_cons, List.sum_cons, Nat.pow_add]
    refine Nat.le_trans (flatMap_len (b := n ^ (ms.map Int.toNat).sum) fun r _ => ?_) (Nat.mul_le_mul_right _ (rowR_len _ _ (by simp)))
    rw [List.length_map]
    exact tabR_len ms r
theorem sum_nat : ∀ {ms : List Int}, Desc ms → (((ms.map Int.toNat).sum : Nat) : Int) = ms.sum
  | [], _ => rfl
  | m :: ms, h => by
    obtain ⟨h1, h2, h3⟩ := h
    have := sum_nat h3
    rw [List.map_cons, List.sum_cons, List.sum_cons]
    omega
theorem tabs_len {n : Nat} {ms : List Int} (hd : Desc ms) (h8 : ms.sum ≤ 8) (hn : n ≤ 7) : (tabs ms n).length ≤ 5764801 := by
  unfold tabs
  refine Nat.le_trans (tabR_len ms _) ?_
  have h := sum_nat hd
  refine Nat.le_trans (Nat.pow_le_pow_left hn _) ?_
  exact Nat.le_trans (Nat.pow_le_pow_right (by omega) (show _ ≤ 8 by omega)) (by decide)
end Go.Proofs.Ytgbojgmmingfdaa
