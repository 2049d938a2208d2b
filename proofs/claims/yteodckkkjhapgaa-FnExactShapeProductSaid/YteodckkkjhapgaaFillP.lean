/- Fillings: numbers put into the rows of a shape, one content after the other. What the program's and the reference's search leave, as one list; how long it is. No program is in sight here. -/
import Derived.Test.YteodckkkjhapgaaOrd
namespace Go.Proofs.Yteodckkkjhapgaa

/-- How many may go into row r at most (below 0: none). -/
def mostAt (most : Int) (old : List Int) (under : Option (List Int)) (put : List Int) (left : Int) (r : Nat) : Int :=
  let m1 := min left (most - nth old r)
  let m2 := if r = 0 then m1 else min m1 (nth old (r - 1) - nth old r)
  match under with
  | none => m2
  | some u => min m2 (nth u r - sumTo put r)
/-- All ways to put 'left' numbers into the last d rows of so many. -/
def layerR (rows : Nat) (most : Int) (K : List Int → List Int → List (List Int)) (old : List Int) (under : Option (List Int)) : Nat → List Int → Int → List Int → List (List Int)
  | 0, shape, left, put => if 0 < left then [] else K shape put
  | d + 1, shape, left, put =>
    (List.range (mostAt most old under put left (rows - (d + 1)) + 1).toNat).flatMap fun (n : Nat) => layerR rows most K old under d (shape.set (rows - (d + 1)) (nth shape (rows - (d + 1)) + (n : Int))) (left - (n : Int)) (put.set (rows - (d + 1)) (n : Int))
/-- The first c of the ways at one row. -/
def layerN (rows : Nat) (most : Int) (K : List Int → List Int → List (List Int)) (old : List Int) (under : Option (List Int)) (d : Nat) (shape : List Int) (left : Int) (put : List Int) (c : Nat) : List (List Int) :=
  (List.range c).flatMap fun (n : Nat) => layerR rows most K old under d (shape.set (rows - (d + 1)) (nth shape (rows - (d + 1)) + (n : Int))) (left - (n : Int)) (put.set (rows - (d + 1)) (n : Int))
/-- The sums of the first rows. -/
def prefs (put : List Int) (n : Nat) : List Int := gen (fun k => sumTo put k) n
/-- All contents, one after the other. -/
def layerC (rows : Nat) (most : Int) : List Int → List Int → Option (List Int) → List (List Int)
  | [], shape, _ => [shape]
  | c :: rest, shape, under => layerR rows most (fun s p => layerC rows most rest s (some (prefs p rows))) shape under rows shape c (List.replicate rows 0)
/-- What follows a row that is full. -/
def layerK (rows : Nat) (most : Int) (rest : List Int) (s p : List Int) : List (List Int) := layerC rows most rest s (some (prefs p rows))
theorem layerC_cons (rows : Nat) (most : Int) (c : Int) (rest shape : List Int) (under : Option (List Int)) :
    layerC rows most (c :: rest) shape under = layerR rows most (layerK rows most rest) shape under rows shape c (List.replicate rows 0) := rfl
theorem layerK_nil (rows : Nat) (most : Int) (s p : List Int) : layerK rows most [] s p = [s] := rfl
theorem layerK_cons (rows : Nat) (most : Int) (c : Int) (rest s p : List Int) :
    layerK rows most (c :: rest) s p = layerR rows most (layerK rows most rest) s (some (prefs p rows)) rows s c (List.replicate rows 0) := rfl
section
variable {rows : Nat} {most : Int} {K : List Int → List Int → List (List Int)} {old : List Int} {under : Option (List Int)} {d : Nat} {shape : List Int} {left : Int} {put : List Int}
theorem layerR_end (h : 0 < left) : layerR rows most K old under 0 shape left put = [] := by rw [layerR, if_pos h]
theorem layerR_full (h : ¬ 0 < left) : layerR rows most K old under 0 shape left put = K shape put := by rw [layerR, if_neg h]
theorem layerN_zero : layerN rows most K old under d shape left put 0 = [] := rfl
theorem layerN_succ (c : Nat) : layerN rows most K old under d shape left put (c + 1) = layerN rows most K old under d shape left put c ++
    layerR rows most K old under d (shape.set (rows - (d + 1)) (nth shape (rows - (d + 1)) + c)) (left - c) (put.set (rows - (d + 1)) c) := by
  simp [layerN, List.range_succ]
theorem layerR_row : layerR rows most K old under (d + 1) shape left put = layerN rows most K old under d shape left put (mostAt most old under put left (rows - (d + 1)) + 1).toNat := rfl
end

/-! ### how many there are -/
def powN (b : Nat) : Nat → Nat
  | 0 => 1
  | e + 1 => b * powN b e
theorem powN_pos {b : Nat} (h : 1 ≤ b) (e : Nat) : 1 ≤ powN b e := by
  induction e with
  | zero => exact Nat.le_refl _
  | succ e ih => exact Nat.mul_pos h ih
/-- The sum of b^0 .. b^(e). -/
def geo (b : Nat) : Nat → Nat
  | 0 => 1
  | e + 1 => powN b (e + 1) + geo b e
theorem geo_le (b : Nat) : ∀ e, geo b e ≤ powN (b + 1) e
  | 0 => Nat.le_refl _
  | e + 1 => by
    have h1 := geo_le b e
    have h2 : powN b e ≤ geo b e := by cases e <;> simp [geo, powN]
    have h3 : powN b e ≤ powN (b + 1) e := Nat.le_trans h2 h1
    have h4 : b * powN b e ≤ b * powN (b + 1) e := Nat.mul_le_mul_left _ h3
    show b * powN b e + geo b e ≤ (b + 1) * powN (b + 1) e
    rw [Nat.add_mul, Nat.one_mul]
    omega
theorem length_flat {α β : Type} (f : α → List β) (g : α → Nat) : ∀ (l : List α), (∀ x ∈ l, (f x).length ≤ g x) → (l.flatMap f).length ≤ (l.map g).sum
  | [], _ => Nat.le_refl _
  | x :: l, h => by
    rw [List.flatMap_cons, List.length_append, List.map_cons, List.sum_cons]
    have h1 := h x List.mem_cons_self
    have h2 := length_flat f g l (fun y hy => h y (List.mem_cons_of_mem _ hy))
    omega
theorem sum_geo (b L : Nat) : ∀ n, n ≤ L + 1 → ((List.range n).map fun i => powN b (L - i)).sum ≤ geo b L := by
  induction L with
  | zero =>
    intro n hn
    have : n = 0 ∨ n = 1 := by omega
    rcases this with rfl | rfl <;> simp [geo, powN]
  | succ L ih =>
    intro n hn
    cases n with
    | zero => simp
    | succ n =>
      rw [List.range_succ_eq_map, List.map_cons, List.sum_cons, List.map_map]
      have h := ih n (by omega)
      have e : ((List.range n).map ((fun i => powN b (L + 1 - i)) ∘ Nat.succ)) = (List.range n).map fun i => powN b (L - i) := by
        apply List.map_congr_left
        intro i _
        simp [Nat.succ_eq_add_one]
      rw [e]
      show powN b (L + 1) + _ ≤ powN b (L + 1) + geo b L
      omega
theorem sum_mul (f : Nat → Nat) (M : Nat) : ∀ l : List Nat, (l.map fun i => f i * M).sum = (l.map f).sum * M
  | [] => by simp
  | x :: l => by simp [sum_mul f M l, Nat.add_mul]
theorem mostAt_left (most : Int) (old : List Int) (under : Option (List Int)) (put : List Int) (left : Int) (r : Nat) : mostAt most old under put left r ≤ left := by
  unfold mostAt
  have h2 : (if r = 0 then min left (most - nth old r) else min (min left (most - nth old r)) (nth old (r - 1) - nth old r)) ≤ left := by split <;> omega
  cases under with
  | none => exact h2
  | some u => simp only; omega
theorem layerR_len {rows : Nat} {most : Int} {K : List Int → List Int → List (List Int)} {old : List Int} {under : Option (List Int)} {M : Nat} (hK : ∀ s p, (K s p).length ≤ M) :
    ∀ (d : Nat) (shape : List Int) (L : Nat) (put : List Int), (layerR rows most K old under d shape L put).length ≤ powN d L * M
  | 0, shape, L, put => by
    rw [layerR]
    split
    · simp
    · rename_i h
      obtain rfl : L = 0 := by omega
      simpa [powN] using hK shape put
  | d + 1, shape, L, put => by
    rw [layerR]
    refine Nat.le_trans (length_flat _ (fun n => powN d (L - n) * M) _ fun n hn => ?_) ?_
    · rw [List.mem_range] at hn
      have hm := mostAt_left most old under put L (rows - (d + 1))
      have e : (L : Int) - n = ((L - n : Nat) : Int) := by omega
      rw [e]
      exact layerR_len hK d _ (L - n) _
    · rw [sum_mul]
      refine Nat.mul_le_mul_right _ (Nat.le_trans (sum_geo d L _ ?_) (geo_le d L))
      have hm := mostAt_left most old under put L (rows - (d + 1))
      omega
def sumN : List Nat → Nat
  | [] => 0
  | c :: r => c + sumN r
theorem powN_add (b m n : Nat) : powN b (m + n) = powN b m * powN b n := by
  induction m with
  | zero => simp [powN]
  | succ m ih => rw [Nat.succ_add]; simp only [powN]; rw [ih, Nat.mul_assoc]
theorem layerC_len {rows : Nat} {most : Int} : ∀ (cs : List Nat) (shape : List Int) (under : Option (List Int)), (layerC rows most (cs.map (fun c : Nat => (c : Int))) shape under).length ≤ powN rows (sumN cs)
  | [], shape, under => by simp [layerC, powN, sumN]
  | c :: cs, shape, under => by
    rw [List.map_cons, layerC_cons]
    have h := layerR_len (rows := rows) (most := most) (old := shape) (under := under) (K := layerK rows most (cs.map fun c : Nat => (c : Int))) (M := powN rows (sumN cs)) (fun s p => layerC_len cs s _) rows shape c (List.replicate rows 0)
    rw [sumN, powN_add]
    exact h
theorem layerK_len {rows : Nat} {most : Int} (cs : List Nat) (s p : List Int) : (layerK rows most (cs.map (fun c : Nat => (c : Int))) s p).length ≤ powN rows (sumN cs) := layerC_len cs s _

/-! ### what they are gathered into -/
/-- Shapes added one after the other. -/
def addAll (acc : List (List Int × Int)) (l : List (List Int)) : List (List Int × Int) := l.foldl (fun a s => addP a (bare s) 1) acc
theorem addAll_nil (acc : List (List Int × Int)) : addAll acc [] = acc := rfl
theorem addAll_one (acc : List (List Int × Int)) (s : List Int) : addAll acc [s] = addP acc (bare s) 1 := rfl
theorem addAll_append (acc : List (List Int × Int)) (a b : List (List Int)) : addAll acc (a ++ b) = addAll (addAll acc a) b := List.foldl_append ..
theorem Grows.all {acc : List (List Int × Int)} {N : Int} (h : Grows acc N) : ∀ (l : List (List Int)), Grows (addAll acc l) (N + l.length)
  | [] => by simpa [addAll] using h
  | s :: l => by
    have := (h.add (bare s)).all l
    have e : addAll acc (s :: l) = addAll (addP acc (bare s) 1) l := rfl
    rw [e]
    simp only [List.length_cons]
    have e2 : N + ((l.length + 1 : Nat) : Int) = N + 1 + (l.length : Int) := by omega
    rw [e2]
    exact this
/-- What fillings gives. -/
def padL (l : List Int) (n : Nat) : List Int := l ++ List.replicate (n - l.length) 0
theorem padL_len {l : List Int} {n : Nat} (h : l.length ≤ n) : (padL l n).length = n := by simp [padL]; omega
theorem nth_padL (l : List Int) (n j : Nat) : nth (padL l n) j = nth l j := by
  unfold padL
  rcases Nat.lt_or_ge j l.length with h | h
  · rw [nth_append_left h]
  · rw [nth_append_right h, nth_ge h]
    rcases Nat.lt_or_ge (j - l.length) (n - l.length) with h2 | h2
    · rw [nth_lt (by simpa using h2)]; simp
    · rw [nth_ge (by simpa using h2)]
def fillB (a b : List Int) (rows : Nat) (most : Int) : List (List Int × Int) := addAll [] (layerC rows most b (padL a rows) none)
/-! ### the tests of a row -/
def overB (most : Int) (old : List Int) (under : Option (List Int)) (put : List Int) (r : Nat) (n : Int) : Prop :=
  (0 < r ∧ nth old (r - 1) < nth old r + n) ∨ most < nth old r + n ∨ ∃ u, under = some u ∧ nth u r < sumTo put r + n
theorem mostAt_iff {most : Int} {old : List Int} {under : Option (List Int)} {put : List Int} {left : Int} {r : Nat} {n : Int} (hn : n ≤ left) :
    n ≤ mostAt most old under put left r ↔ ¬ overB most old under put r n := by
  unfold mostAt overB
  cases under with
  | none =>
    simp only [reduceCtorEq, false_and, exists_false, or_false]
    by_cases h0 : r = 0
    · subst h0; simp; omega
    · simp only [h0, if_false]; omega
  | some u =>
    simp only [Option.some.injEq, exists_eq_left']
    by_cases h0 : r = 0
    · subst h0; simp; omega
    · simp only [h0, if_false]; omega
theorem sumTo_set {l : List Int} {r : Nat} {y : Int} {k : Nat} (h : k ≤ r) : sumTo (l.set r y) k = sumTo l k := by
  induction k with
  | zero => rfl
  | succ k ih =>
    simp only [sumTo]
    rw [ih (by omega), nth_set_ne (by omega)]
theorem sumTo_take {l : List Int} {r : Nat} : ∀ k, k ≤ r → sumTo (l.take r) k = sumTo l k := by
  intro k
  induction k with
  | zero => intro _; rfl
  | succ k ih =>
    intro h
    simp only [sumTo]
    rw [ih (by omega), nth_take (by omega)]
theorem sumL_take {l : List Int} {r : Nat} (h : r ≤ l.length) : sumL (l.take r) = sumTo l r := by
  unfold sumL
  rw [List.length_take, Nat.min_eq_left h, sumTo_take r (Nat.le_refl _)]
/-- Numbers from 0 to M. -/
def Bd (l : List Int) (M : Int) : Prop := ∀ j, 0 ≤ nth l j ∧ nth l j ≤ M
theorem Bd.set {l : List Int} {M : Int} (h : Bd l M) {r : Nat} {y : Int} (h0 : 0 ≤ y) (h1 : y ≤ M) : Bd (l.set r y) M := by
  intro j
  by_cases e : r = j
  · subst e
    rcases Nat.lt_or_ge r l.length with hr | hr
    · rw [nth_set_eq hr]; exact ⟨h0, h1⟩
    · rw [List.set_eq_of_length_le hr]; exact h r
  · rw [nth_set_ne e]; exact h j
theorem Bd.sum {l : List Int} {M : Int} (h : Bd l M) (k : Nat) : 0 ≤ sumTo l k ∧ sumTo l k ≤ M * k := by
  induction k with
  | zero => simp [sumTo]
  | succ k ih =>
    have := h k
    simp only [sumTo]
    have e : M * ((k + 1 : Nat) : Int) = M * k + M := by rw [Int.natCast_succ, Int.mul_add]; omega
    rw [e]
    omega
theorem Bd.zeros (n : Nat) {M : Int} (h : 0 ≤ M) : Bd (List.replicate n 0) M := by
  intro j
  rcases Nat.lt_or_ge j n with hj | hj
  · rw [nth_lt (by simpa using hj)]; simp; exact h
  · rw [nth_ge (by simpa using hj)]; exact ⟨Int.le_refl _, h⟩
theorem prefs_len (put : List Int) (n : Nat) : (prefs put n).length = n := gen_len _ _
theorem nth_prefs {put : List Int} {n k : Nat} (h : k < n) : nth (prefs put n) k = sumTo put k := nth_gen h
theorem Bd.prefs {put : List Int} {n : Nat} (h : Bd put 1000) (hn : n ≤ 16) : Bd (prefs put n) 100000 := by
  intro j
  rcases Nat.lt_or_ge j n with hj | hj
  · rw [nth_prefs hj]
    have := h.sum j
    omega
  · rw [nth_ge (by rw [prefs_len]; exact hj)]; omega
/-- The sums so far. -/
def prefTo (put : List Int) (n k : Nat) : List Int := gen (fun j => if j < k then sumTo put j else 0) n
theorem prefTo_zero (put : List Int) (n : Nat) : prefTo put n 0 = List.replicate n 0 := by
  refine ext_nth (by simp [prefTo, gen_len]) fun j hj => ?_
  rw [prefTo, gen_len] at hj
  rw [prefTo, nth_gen hj, nth_lt (by simpa using hj)]
  simp
theorem prefTo_set {put : List Int} {n k : Nat} {y : Int} (hk : k < n) (hy : y = sumTo put k) : (prefTo put n k).set k y = prefTo put n (k + 1) := by
  refine ext_nth (by simp [prefTo, gen_len]) fun j hj => ?_
  rw [List.length_set, prefTo, gen_len] at hj
  by_cases e : k = j
  · subst e
    rw [nth_set_eq (by simp [prefTo, gen_len]; exact hj), prefTo, nth_gen hj, if_pos (by omega), hy]
  · rw [nth_set_ne e, prefTo, prefTo, nth_gen hj, nth_gen hj]
    by_cases h1 : j < k
    · rw [if_pos h1, if_pos (by omega)]
    · rw [if_neg h1, if_neg (by omega)]
theorem prefTo_all (put : List Int) (n : Nat) : prefTo put n n = prefs put n := by
  refine ext_nth (by simp [prefTo, prefs, gen_len]) fun j hj => ?_
  rw [prefTo, gen_len] at hj
  rw [prefTo, prefs, nth_gen hj, nth_gen hj, if_pos hj]
theorem prefTo_len (put : List Int) (n k : Nat) : (prefTo put n k).length = n := gen_len _ _

/-- Ascending, few, short: what the walk asks of the parts gathered so far. -/
structure Okp (ps : List (List Int × Int)) (N : Int) : Prop where
  grows : Grows ps N
  short : ∀ x ∈ ps, x.1.length ≤ 1000
theorem Okp.nil_ : Okp [] 0 := ⟨grows_nil, fun x h => by simp at h⟩
theorem Okp.add {ps : List (List Int × Int)} {N : Int} (h : Okp ps N) {s : List Int} (hs : s.length ≤ 1000) : Okp (addP ps (bare s) 1) (N + 1) :=
  ⟨h.grows.add _, fun x hx => by
    rcases addP_shapes h.grows.srt (fun y hy => (h.grows.cnt y hy).1) hx with e | ⟨y, hy, e⟩
    · rw [e]; unfold bare; rw [List.length_take]; omega
    · rw [← e]; exact h.short y hy⟩
theorem Okp.all {ps : List (List Int × Int)} {N : Int} (h : Okp ps N) : ∀ (l : List (List Int)), (∀ s ∈ l, s.length ≤ 1000) → Okp (addAll ps l) (N + l.length)
  | [], _ => by simpa [addAll] using h
  | s :: l, hl => by
    have := (h.add (hl s List.mem_cons_self)).all l (fun t ht => hl t (List.mem_cons_of_mem _ ht))
    have e : addAll ps (s :: l) = addAll (addP ps (bare s) 1) l := rfl
    rw [e]
    simp only [List.length_cons]
    have e2 : N + ((l.length + 1 : Nat) : Int) = N + 1 + (l.length : Int) := by omega
    rw [e2]
    exact this
theorem Okp.len {ps : List (List Int × Int)} {N : Int} (h : Okp ps N) : ∀ k, k < ps.length → (nthP ps k).1.length ≤ 1000000 := fun k hk => Nat.le_trans (h.short _ (nthP_mem hk)) (by omega)
theorem layerR_rows {rows : Nat} {most : Int} {K : List Int → List Int → List (List Int)} {old : List Int} {under : Option (List Int)} {m : Nat} (hK : ∀ s p, s.length = m → ∀ t ∈ K s p, t.length = m) :
    ∀ (d : Nat) (shape : List Int) (left : Int) (put : List Int), shape.length = m → ∀ t ∈ layerR rows most K old under d shape left put, t.length = m
  | 0, shape, left, put, h, t, ht => by
    rw [layerR] at ht
    split at ht
    · cases ht
    · exact hK shape put h t ht
  | d + 1, shape, left, put, h, t, ht => by
    rw [layerR, List.mem_flatMap] at ht
    obtain ⟨n, _, ht⟩ := ht
    exact layerR_rows hK d _ _ _ (by rw [List.length_set]; exact h) t ht
theorem layerC_rows {rows : Nat} {most : Int} : ∀ (cs shape : List Int) (under : Option (List Int)) (m : Nat), shape.length = m → ∀ t ∈ layerC rows most cs shape under, t.length = m
  | [], shape, under, m, h, t, ht => by
    simp [layerC] at ht
    rw [ht]; exact h
  | c :: cs, shape, under, m, h, t, ht => by
    rw [layerC_cons] at ht
    exact layerR_rows (fun s p hs t ht => layerC_rows cs s _ m hs t ht) rows shape c _ h t ht
theorem layerK_rows {rows : Nat} {most : Int} (rest s p : List Int) (m : Nat) (h : s.length = m) : ∀ t ∈ layerK rows most rest s p, t.length = m := layerC_rows rest s _ m h
theorem layerN_rows {rows : Nat} {most : Int} {K : List Int → List Int → List (List Int)} {old : List Int} {under : Option (List Int)} {d : Nat} {shape : List Int} {left : Int} {put : List Int} {m : Nat} (hK : ∀ s p, s.length = m → ∀ t ∈ K s p, t.length = m) (h : shape.length = m) (c : Nat) :
    ∀ t ∈ layerN rows most K old under d shape left put c, t.length = m := by
  intro t ht
  unfold layerN at ht
  rw [List.mem_flatMap] at ht
  obtain ⟨n, _, ht⟩ := ht
  exact layerR_rows hK d _ _ _ (by rw [List.length_set]; exact h) t ht
theorem layerN_mono {rows : Nat} {most : Int} {K : List Int → List Int → List (List Int)} {old : List Int} {under : Option (List Int)} {d : Nat} {shape : List Int} {left : Int} {put : List Int} {c1 c2 : Nat} (h : c1 ≤ c2) :
    (layerN rows most K old under d shape left put c1).length ≤ (layerN rows most K old under d shape left put c2).length := by
  induction c2 with
  | zero => obtain rfl : c1 = 0 := by omega
            exact Nat.le_refl _
  | succ c2 ih =>
    rcases Nat.lt_or_ge c2 c1 with h1 | h1
    · obtain rfl : c1 = c2 + 1 := by omega
      exact Nat.le_refl _
    · rw [layerN_succ, List.length_append]
      have := ih h1
      omega
end Go.Proofs.Yteodckkkjhapgaa
