/- Tableaux row by row, and by what the last number leaves: the plain law of Schur polynomials. No program is in sight here. -/
import Derived.Test.YtgbojgmmingfdaaPlain
namespace Go.Proofs.Ytgbojgmmingfdaa

/-- The numbers from k on, m of them. -/
def upI (k : Int) : Nat → List Int
  | 0 => []
  | m + 1 => k :: upI (k + 1) m
theorem upI_snoc (k : Int) (m : Nat) : upI k (m + 1) = upI k m ++ [k + m] := by
  induction m generalizing k with
  | zero => simp [upI]
  | succ m ih =>
    rw [upI, ih (k + 1), upI, List.cons_append]
    simp only [List.cons.injEq, true_and, List.append_cancel_left_eq, and_true]
    omega
theorem upI_mem {k x : Int} {m : Nat} : x ∈ upI k m ↔ k ≤ x ∧ x < k + m := by
  induction m generalizing k with
  | zero => simp [upI] <;> omega
  | succ m ih => rw [upI, List.mem_cons, ih]; omega
/-- The least number that may stand behind acc in a row under prev. -/
def lowR (prev acc : List Int) : Int := max (if acc.length = 0 then 0 else nth acc (acc.length - 1)) (nth prev acc.length + 1)
def rowR (n : Int) (prev : List Int) : Nat → List Int → List (List Int)
  | 0, acc => [acc]
  | k + 1, acc => (upI (lowR prev acc) (n - lowR prev acc).toNat).flatMap fun x => rowR n prev k (acc ++ [x])
def tabR (n : Int) : List Int → List Int → List (List (List Int))
  | _, [] => [[]]
  | prev, m :: ms => (rowR n prev m.toNat []).flatMap fun row => (tabR n row ms).map (row :: ·)
/-- All tableaux of a shape. -/
def tabs (shape : List Int) (n : Int) : List (List (List Int)) := tabR n (List.replicate (nth shape 0).toNat (-1)) shape
def keyRow (r : List Int) : Int := (r.map fun x => 128 ^ x.toNat).sum
def keyT (t : List (List Int)) : Int := (t.map keyRow).sum
def keysR (n : Int) (prev ms : List Int) : List Int := (tabR n prev ms).map keyT

theorem flatMap_swap {α β γ : Type} (f : α → β → List γ) : ∀ (l1 : List α) (l2 : List β), (l1.flatMap fun a => l2.flatMap (f a)).Perm (l2.flatMap fun b => l1.flatMap fun a => f a b)
  | [], l2 => by
    have : (l2.flatMap fun b => ([] : List α).flatMap fun a => f a b) = [] := by simp
    rw [this]; simp
  | a :: l1, l2 => by
    rw [List.flatMap_cons]
    refine (List.Perm.append_left _ (flatMap_swap f l1 l2)).trans ?_
    have e : (l2.flatMap fun b => (a :: l1).flatMap fun a => f a b) = l2.flatMap fun b => f a b ++ l1.flatMap fun a => f a b := by simp
    rw [e]
    clear e
    induction l2 with
    | nil => simp
    | cons b l2 ih =>
      simp only [List.flatMap_cons]
      have h1 : ∀ (A B C D R : List γ), (B ++ D).Perm R → (A ++ B ++ (C ++ D)).Perm (A ++ C ++ R) := fun A B C D R h => by
        rw [List.append_assoc, List.append_assoc]
        refine List.Perm.append_left _ ?_
        rw [← List.append_assoc]
        refine (List.Perm.append_right _ List.perm_append_comm).trans ?_
        rw [List.append_assoc]
        exact List.Perm.append_left _ h
      exact h1 _ _ _ _ _ ih
theorem perm_flatMap {α γ : Type} {f g : α → List γ} : ∀ {l : List α}, (∀ a ∈ l, (f a).Perm (g a)) → (l.flatMap f).Perm (l.flatMap g)
  | [], _ => by simp
  | a :: l, h => by
    rw [List.flatMap_cons, List.flatMap_cons]
    exact (h a (by simp)).append (perm_flatMap fun b hb => h b (List.mem_cons_of_mem _ hb))
theorem flatMap_none {α γ : Type} {f : α → List γ} {l : List α} (h : ∀ a ∈ l, f a = []) : l.flatMap f = [] := by
  rw [List.flatMap_eq_nil_iff]; exact h
theorem flatMap_same {α γ : Type} {f g : α → List γ} : ∀ {l : List α}, (∀ a ∈ l, f a = g a) → l.flatMap f = l.flatMap g
  | [], _ => rfl
  | a :: l, h => by rw [List.flatMap_cons, List.flatMap_cons, h a (by simp), flatMap_same fun b hb => h b (List.mem_cons_of_mem _ hb)]
/-! ### rows -/
/-- A row prev and what its greatest numbers leave of it. -/
structure Cut (n' : Nat) (prev p : List Int) : Prop where
  lt : ∀ j, j < p.length → nth prev j = nth p j ∧ nth p j < n'
  ge : ∀ j, p.length ≤ j → j < prev.length → nth prev j = n'
theorem nth_snoc (acc : List Int) (x : Int) : nth (acc ++ [x]) acc.length = x := by rw [nth_append_right (Nat.le_refl _)]; simp [nth]
theorem rep_snoc (acc : List Int) (x : Int) (b : Nat) : acc ++ List.replicate (b + 1) x = acc ++ [x] ++ List.replicate b x := by simp [List.replicate_succ]
theorem rep_tail (acc : List Int) (x : Int) (b : Nat) : acc ++ List.replicate b x ++ [x] = acc ++ List.replicate (b + 1) x := by rw [List.replicate_succ']; simp
theorem lowR_snoc (prev acc : List Int) (x : Int) : lowR prev (acc ++ [x]) = max x (nth prev (acc.length + 1) + 1) := by
  unfold lowR
  rw [if_neg (by simp), List.length_append, List.length_singleton, Nat.add_sub_cancel, nth_snoc]
/-- Behind a greatest number only greatest ones may stand, and only where the row above has less. -/
theorem row_great {n' : Nat} {prev p : List Int} (hc : Cut n' prev p) : ∀ (k : Nat) (acc : List Int), acc.length + k + 1 ≤ prev.length → acc.length + 1 ≤ p.length →
    rowR (n' + 1) prev k (acc ++ [(n' : Int)]) = if acc.length + 1 + k ≤ p.length then [acc ++ List.replicate (k + 1) (n' : Int)] else []
  | 0, acc, _, h2 => by rw [rowR, if_pos (by omega)]; simp
  | k + 1, acc, h1, h2 => by
    rw [rowR, lowR_snoc]
    by_cases h : acc.length + 1 < p.length
    · have h3 := hc.lt (acc.length + 1) h
      rw [h3.1, show max (n' : Int) (nth p (acc.length + 1) + 1) = n' by omega, show ((n' : Int) + 1 - n').toNat = 1 by omega]
      have ih := row_great hc k (acc ++ [(n' : Int)]) (by simp; omega) (by simp; omega)
      rw [List.length_append, List.length_singleton] at ih
      simp only [upI, List.flatMap_cons, List.flatMap_nil, List.append_nil]
      rw [ih]
      by_cases h4 : acc.length + 1 + (k + 1) ≤ p.length
      · rw [if_pos (by omega), if_pos h4, ← rep_snoc]
      · rw [if_neg (by omega), if_neg h4]
    · have h3 := hc.ge (acc.length + 1) (by omega) (by omega)
      rw [h3, if_neg (by omega), show max (n' : Int) ((n' : Int) + 1) = n' + 1 by omega, show ((n' : Int) + 1 - (n' + 1)).toNat = 0 by omega]
      rfl
def upN (a : Nat) : Nat → List Nat
  | 0 => []
  | m + 1 => a :: upN (a + 1) m
theorem upN_map (a m : Nat) : (upN a m).map (· + 1) = upN (a + 1) m := by
  induction m generalizing a with
  | zero => rfl
  | succ m ih => simp [upN, ih]
theorem upN_mem {a m x : Nat} : x ∈ upN a m ↔ a ≤ x ∧ x < a + m := by
  induction m generalizing a with
  | zero => simp [upN] <;> omega
  | succ m ih => rw [upN, List.mem_cons, ih]; omega
/-- Rows by how many numbers are below the greatest. -/
theorem row_cut {n' : Nat} {prev p : List Int} (hc : Cut n' prev p) : ∀ (k : Nat) (acc : List Int), acc.length + k ≤ prev.length → acc.length ≤ p.length → (∀ x ∈ acc, x < n') →
    (rowR (n' + 1) prev k acc).Perm (if acc.length + k ≤ p.length then (upN 0 (k + 1)).flatMap fun k' => (rowR n' p k' acc).map (· ++ List.replicate (k - k') (n' : Int)) else [])
  | 0, acc, _, h2, _ => by
    rw [if_pos (by omega)]
    simp [upN, rowR]
  | k + 1, acc, h1, h2, h3 => by
    by_cases h : acc.length < p.length
    · have hp := hc.lt _ h
      have hlow : lowR prev acc = lowR p acc := by unfold lowR; rw [hp.1]
      have hle : lowR p acc ≤ n' := by
        unfold lowR
        have : (if acc.length = 0 then (0 : Int) else nth acc (acc.length - 1)) ≤ n' := by
          split
          · omega
          · exact Int.le_of_lt (h3 _ (nth_mem (by omega)))
        omega
      rw [rowR, hlow]
      rw [show ((n' : Int) + 1 - lowR p acc).toNat = (n' - lowR p acc).toNat + 1 by omega, upI_snoc, List.flatMap_append]
      rw [show lowR p acc + (((n' : Int) - lowR p acc).toNat : Int) = n' by omega]
      simp only [List.flatMap_cons, List.flatMap_nil, List.append_nil]
      rw [row_great hc k acc (by omega) (by omega)]
      have hx : ∀ x ∈ upI (lowR p acc) ((n' : Int) - lowR p acc).toNat, (rowR (n' + 1) prev k (acc ++ [x])).Perm (if acc.length + 1 + k ≤ p.length then (upN 0 (k + 1)).flatMap fun k' => (rowR n' p k' (acc ++ [x])).map (· ++ List.replicate (k - k') (n' : Int)) else []) := fun x hx => by
        have hx' := upI_mem.1 hx
        have := row_cut hc k (acc ++ [x]) (by simp; omega) (by simp; omega) (fun y hy => by
          rcases List.mem_append.1 hy with hy | hy
          · exact h3 y hy
          · rw [List.mem_singleton.1 hy]; omega)
        rwa [List.length_append, List.length_singleton] at this
      refine (List.Perm.append_right _ (perm_flatMap hx)).trans ?_
      by_cases h4 : acc.length + 1 + k ≤ p.length
      · simp only [if_pos h4, if_pos (show acc.length + (k + 1) ≤ p.length by omega)]
        refine (List.perm_append_comm).trans ?_
        rw [show upN 0 (k + 1 + 1) = 0 :: upN 1 (k + 1) from rfl, List.flatMap_cons]
        refine List.Perm.append (by simp [rowR]) ?_
        rw [← upN_map, List.flatMap_map]
        refine (flatMap_swap _ _ _).trans (perm_flatMap fun k' _ => ?_)
        rw [rowR, List.map_flatMap, show k + 1 - (k' + 1) = k - k' by omega]
      · simp only [if_neg h4, if_neg (show ¬ acc.length + (k + 1) ≤ p.length by omega)]
        simp
    · rw [if_neg (by omega)]
      have hq := hc.ge acc.length (by omega) (by omega)
      have : n' + 1 ≤ lowR prev acc := by
        unfold lowR
        rw [hq]
        omega
      rw [rowR, show ((n' : Int) + 1 - lowR prev acc).toNat = 0 by omega]
      simp [upI]
/-! ### tableaux by what the last number leaves -/
/-- Horizontal strips taken from rows. -/
def stripsR : List Int → List (List Int)
  | [] => [[]]
  | m :: ms => (upI (nth ms 0) (m - nth ms 0 + 1).toNat).flatMap fun c => (stripsR ms).map (c :: ·)
def Desc : List Int → Prop
  | [] => True
  | m :: ms => nth ms 0 ≤ m ∧ 0 ≤ m ∧ Desc ms
theorem rowR_congr {n : Int} {p q : List Int} : ∀ (k : Nat) (acc : List Int), (∀ j, j < acc.length + k → nth p j = nth q j) → rowR n p k acc = rowR n q k acc
  | 0, _, _ => rfl
  | k + 1, acc, h => by
    have e : lowR p acc = lowR q acc := by unfold lowR; rw [h _ (by omega)]
    rw [rowR, rowR, e]
    congr 1
    funext x
    exact rowR_congr k (acc ++ [x]) fun j hj => h j (by simp at hj; omega)
theorem tabR_congr {n : Int} {p q ms : List Int} (h : ∀ j : Nat, (j : Int) < nth ms 0 → nth p j = nth q j) : tabR n p ms = tabR n q ms := by
  cases ms with
  | nil => rfl
  | cons m ms =>
    have e : nth (m :: ms) 0 = m := rfl
    rw [tabR, tabR, rowR_congr m.toNat [] fun j hj => h j (by rw [e]; simp at hj; omega)]
theorem rowR_mem {n : Int} {p : List Int} : ∀ (k : Nat) (acc : List Int), (∀ x ∈ acc, 0 ≤ x ∧ x < n) → ∀ r ∈ rowR n p k acc, r.length = acc.length + k ∧ ∀ x ∈ r, 0 ≤ x ∧ x < n
  | 0, acc, h, r, hr => by
    rw [rowR, List.mem_singleton] at hr
    rw [hr]; exact ⟨rfl, h⟩
  | k + 1, acc, h, r, hr => by
    rw [rowR, List.mem_flatMap] at hr
    obtain ⟨x, hx, hr⟩ := hr
    have hx := upI_mem.1 hx
    have h0 : 0 ≤ lowR p acc := by
      unfold lowR
      have : (0 : Int) ≤ if acc.length = 0 then 0 else nth acc (acc.length - 1) := by
        split
        · omega
        · exact (h _ (nth_mem (by omega))).1
      omega
    have := rowR_mem k (acc ++ [x]) (fun y hy => by
      rcases List.mem_append.1 hy with hy | hy
      · exact h y hy
      · rw [List.mem_singleton.1 hy]; omega) r hr
    rw [List.length_append, List.length_singleton] at this
    exact ⟨by omega, this.2⟩
theorem cut_row {n' : Nat} {r : List Int} (h : ∀ x ∈ r, x < n') (b : Nat) : Cut n' (r ++ List.replicate b (n' : Int)) r := by
  refine ⟨fun j hj => ⟨nth_append_left hj, h _ (nth_mem hj)⟩, fun j h1 h2 => ?_⟩
  rw [nth_append_right h1, nth_lt (by rw [List.length_append] at h2; omega)]
  simp
theorem keyRow_rep (r : List Int) (b : Nat) (n' : Nat) : keyRow (r ++ List.replicate b (n' : Int)) = keyRow r + (b : Int) * 128 ^ n' := by
  unfold keyRow
  rw [List.map_append, List.sum_append]
  congr 1
  rw [List.map_replicate, List.sum_replicate_int]
  simp
/-- Keys are those of what the last number leaves, with the power of the last variable. -/
theorem keys_cut {n' : Nat} : ∀ (ms prev p : List Int), Desc ms → Cut n' prev p → nth ms 0 ≤ prev.length →
    (keysR (n' + 1) prev ms).Perm (if nth ms 0 ≤ p.length then (stripsR ms).flatMap fun mu => (keysR n' p mu).map (· + (ms.sum - mu.sum) * 128 ^ n') else [])
  | [], prev, p, _, _, _ => by
    rw [if_pos (by have : nth [] 0 = 0 := rfl
                   rw [this]; omega)]
    simp [keysR, tabR, stripsR]
  | m :: ms, prev, p, hd, hc, hl => by
    have e0 : nth (m :: ms) 0 = m := rfl
    rw [e0] at hl ⊢
    obtain ⟨hd1, hd2, hd3⟩ := hd
    obtain ⟨M, rfl⟩ : ∃ M : Nat, m = M := ⟨m.toNat, by omega⟩
    have hrow := row_cut hc M [] (by simp; omega) (by simp) (by simp)
    simp only [List.length_nil, Nat.zero_add] at hrow
    have step1 : (keysR (n' + 1) prev ((M : Int) :: ms)).Perm ((rowR (n' + 1) prev M []).flatMap fun row => (keysR (n' + 1) row ms).map (keyRow row + ·)) := by
      unfold keysR
      rw [tabR, List.map_flatMap, Int.toNat_natCast]
      refine perm_flatMap fun row _ => ?_
      rw [List.map_map, List.map_map]
      exact List.Perm.of_eq (List.map_congr_left fun t _ => by simp [keyT])
    refine step1.trans ((hrow.flatMap_right _).trans ?_)
    by_cases hM : M ≤ p.length
    · rw [if_pos hM, if_pos (by omega), List.flatMap_assoc]
      have step2 : ∀ k' ∈ upN 0 (M + 1), (((rowR n' p k' []).map (· ++ List.replicate (M - k') (n' : Int))).flatMap fun row => (keysR (n' + 1) row ms).map (keyRow row + ·)).Perm
          (if nth ms 0 ≤ k' then (stripsR ms).flatMap fun mu => (keysR n' p ((k' : Int) :: mu)).map (· + (((M : Int) :: ms).sum - ((k' : Int) :: mu).sum) * 128 ^ n') else []) := fun k' hk' => by
        have hk' := upN_mem.1 hk'
        rw [List.flatMap_map]
        have h3 : ∀ r ∈ rowR n' p k' [], ((keysR (n' + 1) (r ++ List.replicate (M - k') (n' : Int)) ms).map (keyRow (r ++ List.replicate (M - k') (n' : Int)) + ·)).Perm
            (if nth ms 0 ≤ k' then (stripsR ms).flatMap fun mu => (keysR n' r mu).map fun x => keyRow r + x + ((M : Int) + ms.sum - (k' + mu.sum)) * 128 ^ n' else []) := fun r hr => by
          have hr := rowR_mem k' [] (by simp) r hr
          have ih := keys_cut ms _ r hd3 (cut_row (fun x hx => (hr.2 x hx).2) (M - k')) (by rw [List.length_append, List.length_replicate, hr.1]; simp; omega)
          rw [hr.1] at ih
          simp only [List.length_nil, Nat.zero_add] at ih
          refine (ih.map _).trans ?_
          by_cases h5 : nth ms 0 ≤ (k' : Int)
          · rw [if_pos h5, if_pos h5, List.map_flatMap]
            refine perm_flatMap fun mu _ => ?_
            rw [List.map_map]
            refine List.Perm.of_eq (List.map_congr_left fun x _ => ?_)
            simp only [Function.comp]
            rw [keyRow_rep, show (M : Int) + ms.sum - (k' + mu.sum) = ((M - k' : Nat) : Int) + (ms.sum - mu.sum) by omega, Int.add_mul]
            omega
          · rw [if_neg h5, if_neg h5]; simp
        refine (perm_flatMap h3).trans ?_
        by_cases h5 : nth ms 0 ≤ (k' : Int)
        · simp only [if_pos h5]
          refine (flatMap_swap _ _ _).trans (perm_flatMap fun mu _ => ?_)
          unfold keysR
          rw [tabR, List.map_flatMap, List.map_flatMap, Int.toNat_natCast]
          refine perm_flatMap fun r _ => ?_
          rw [List.map_map, List.map_map, List.map_map]
          refine List.Perm.of_eq (List.map_congr_left fun t _ => ?_)
          simp [keyT]
        · simp only [if_neg h5]
          rw [flatMap_none fun _ _ => rfl]
      refine (perm_flatMap step2).trans ?_
      rw [stripsR, List.flatMap_assoc]
      obtain ⟨K, hK⟩ : ∃ K : Nat, nth ms 0 = K := ⟨(nth ms 0).toNat, by
        have : 0 ≤ nth ms 0 := by
          cases ms with
          | nil => exact Int.le_refl _
          | cons a ar => exact hd3.2.1
        omega⟩
      rw [hK]
      have hKM : K ≤ M := by omega
      have key : ∀ (F : Nat → List Int) (d a : Nat), a ≤ K → K < a + d → ((upN a d).flatMap fun k' : Nat => if (K : Int) ≤ (k' : Int) then F k' else []) = (upN K (a + d - K)).flatMap F := by
        intro F d
        induction d with
        | zero => intro a h1 h2; omega
        | succ d ih =>
          intro a h1 h2
          by_cases h3 : a = K
          · subst h3
            rw [show a + (d + 1) - a = d + 1 by omega]
            refine flatMap_same fun x hx => ?_
            rw [if_pos (by have := upN_mem.1 hx; omega)]
          · rw [upN, List.flatMap_cons, if_neg (by omega), List.nil_append, ih (a + 1) (by omega) (by omega), show a + 1 + d - K = a + (d + 1) - K by omega]
      rw [key _ (M + 1) 0 (by omega) (by omega)]
      have cast : ∀ (d a : Nat), upI (a : Int) d = (upN a d).map fun x : Nat => (x : Int) := by
        intro d
        induction d with
        | zero => intro a; rfl
        | succ d ih => intro a; rw [upI, upN, List.map_cons, ← ih (a + 1)]; rfl
      rw [show ((M : Int) - K + 1).toNat = 0 + (M + 1) - K by omega, cast, List.flatMap_map]
      refine List.Perm.of_eq (flatMap_same fun c _ => ?_)
      rw [List.flatMap_map]
    · rw [if_neg hM, if_neg (by omega)]
      simp
/-! ### zeros at the end -/
theorem keysR_zero {n : Int} : ∀ (ms p : List Int), keysR n p (ms ++ [0]) = keysR n p ms
  | [], p => by simp [keysR, tabR, rowR, keyT, keyRow]
  | m :: ms, p => by
    unfold keysR
    rw [List.cons_append, tabR, tabR, List.map_flatMap, List.map_flatMap]
    refine flatMap_same fun r _ => ?_
    have ih := keysR_zero (n := n) ms r
    unfold keysR at ih
    have e : keyT ∘ (fun x => r :: x) = (keyRow r + ·) ∘ keyT := by funext t; simp [keyT]
    rw [List.map_map, List.map_map, e, ← List.map_map, ih, List.map_map]
theorem keysR_zeros {n : Int} (ms p : List Int) (k : Nat) : keysR n p (ms ++ List.replicate k 0) = keysR n p ms := by
  induction k with
  | zero => simp
  | succ k ih => rw [List.replicate_succ', ← List.append_assoc, keysR_zero, ih]
theorem bareLen_zeros (l : List Int) : ∀ n, ∀ j, bareLen l n ≤ j → j < n → nth l j = 0
  | 0, _, _, h => by omega
  | n + 1, j, h1, h2 => by
    rw [bareLen] at h1
    split at h1
    · rename_i h0
      by_cases hj : j = n
      · rw [hj]; exact h0
      · exact bareLen_zeros l n j h1 (by omega)
    · omega
theorem bare_app (l : List Int) : l = bare l ++ List.replicate (l.length - bareLen l l.length) 0 := by
  have hle := bareLen_le l l.length
  refine ext_nth (by unfold bare; rw [List.length_append, List.length_take, List.length_replicate]; omega) fun j hj => ?_
  have hb : (bare l).length = bareLen l l.length := by unfold bare; rw [List.length_take]; omega
  by_cases h : j < bareLen l l.length
  · rw [nth_append_left (by omega)]
    unfold bare
    rw [nth_take h]
  · rw [nth_append_right (by omega), bareLen_zeros l _ j (by omega) hj, hb, nth_lt (by rw [List.length_replicate]; omega)]
    simp
def keysS (shape : List Int) (n : Int) : List Int := (tabs shape n).map keyT
theorem bareLen_last (l : List Int) : ∀ n, 0 < bareLen l n → nth l (bareLen l n - 1) ≠ 0
  | 0, h => by rw [bareLen] at h; omega
  | n + 1, h => by
    rw [bareLen] at h ⊢
    split
    · rename_i h0
      rw [if_pos h0] at h
      exact bareLen_last l n h
    · simpa
theorem nth_bare0 (l : List Int) : nth (bare l) 0 = nth l 0 := by
  by_cases h : 0 < bareLen l l.length
  · unfold bare; rw [nth_take h]
  · have : bare l = [] := by unfold bare; rw [show bareLen l l.length = 0 by omega]; rfl
    rw [this]
    by_cases h2 : 0 < l.length
    · rw [bareLen_zeros l l.length 0 (by omega) h2]; rfl
    · rw [nth_ge (l := l) (by omega)]; rfl
theorem sum_bare (l : List Int) : (bare l).sum = l.sum := by
  have h := congrArg List.sum (bare_app l)
  rw [List.sum_append, List.sum_replicate_int] at h
  omega
theorem strips_desc : ∀ {ms mu : List Int}, Desc ms → mu ∈ stripsR ms → Desc mu ∧ mu.length = ms.length ∧ (∀ j, nth ms (j + 1) ≤ nth mu j ∧ nth mu j ≤ nth ms j)
  | [], mu, _, h => by
    rw [stripsR, List.mem_singleton] at h
    subst h
    exact ⟨trivial, rfl, fun j => ⟨Int.le_refl _, Int.le_refl _⟩⟩
  | m :: ms, mu, hd, h => by
    obtain ⟨h1, h2, h3⟩ := hd
    rw [stripsR, List.mem_flatMap] at h
    obtain ⟨c, hc, h⟩ := h
    obtain ⟨nu, hnu, rfl⟩ := List.mem_map.1 h
    have hc := upI_mem.1 hc
    obtain ⟨d1, d2, d3⟩ := strips_desc h3 hnu
    have h0 : 0 ≤ nth ms 0 := by
      cases ms with
      | nil => exact Int.le_refl _
      | cons a ar => exact h3.2.1
    have e0 : nth (m :: ms) 1 = nth ms 0 := rfl
    refine ⟨⟨?_, by omega, d1⟩, by simp [d2], fun j => ?_⟩
    · have := (d3 0).2; omega
    · cases j with
      | zero =>
        have e1 : nth (c :: nu) 0 = c := rfl
        have e2 : nth (m :: ms) 0 = m := rfl
        rw [e1, e2, Nat.zero_add, e0]
        omega
      | succ j => exact d3 j
theorem keysS_cut {n : Nat} {ms : List Int} (hd : Desc ms) : (keysS ms ((n : Int) + 1)).Perm ((stripsR ms).flatMap fun mu => (keysS (bare mu) n).map (· + (ms.sum - (bare mu).sum) * 128 ^ n)) := by
  have h0 : 0 ≤ nth ms 0 := by
    cases ms with
    | nil => exact Int.le_refl _
    | cons a ar => exact hd.2.1
  have hm : ∀ (k : Nat) (x : Int), x ∈ List.replicate k (-1 : Int) → x < n := fun k x hx => by have := (List.mem_replicate.1 hx).2; omega
  have hc : Cut n (List.replicate (nth ms 0).toNat (-1)) (List.replicate (nth ms 0).toNat (-1)) := by
    have := cut_row (hm (nth ms 0).toNat) 0
    simpa using this
  have h := keys_cut ms _ _ hd hc (by rw [List.length_replicate]; omega)
  rw [if_pos (by rw [List.length_replicate]; omega)] at h
  refine List.Perm.trans (List.Perm.of_eq rfl) (h.trans (perm_flatMap fun mu hmu => List.Perm.of_eq ?_))
  obtain ⟨d1, d2, d3⟩ := strips_desc hd hmu
  have e : keysR n (List.replicate (nth ms 0).toNat (-1)) mu = keysS (bare mu) n := by
    have h1 := keysR_zeros (n := (n : Int)) (bare mu) (List.replicate (nth ms 0).toNat (-1)) (mu.length - bareLen mu mu.length)
    rw [← bare_app] at h1
    rw [h1]
    unfold keysR keysS tabs
    rw [tabR_congr fun j hj => ?_]
    rw [nth_bare0] at hj ⊢
    have := (d3 0).2
    have hr : ∀ a : Nat, j < a → nth (List.replicate a (-1)) j = -1 := fun a ha => by rw [nth_lt (by rw [List.length_replicate]; exact ha)]; simp
    rw [hr _ (by omega), hr _ (by omega)]
  rw [e, sum_bare]
theorem keysS_nil (n : Int) : keysS [] n = [0] := rfl
/-- More rows than numbers: no tableau. -/
theorem keysS_none : ∀ {n : Nat} {ms : List Int}, Desc ms → (∀ j, j < ms.length → 1 ≤ nth ms j) → n < ms.length → keysS ms n = []
  | 0, ms, hd, hp, hn => by
    cases ms with
    | nil => simp at hn
    | cons m ms =>
      have h1 : 1 ≤ m := hp 0 (by simp)
      obtain ⟨M, hM⟩ : ∃ M : Nat, m = M + 1 := ⟨(m - 1).toNat, by omega⟩
      unfold keysS tabs
      rw [tabR, hM, show ((M : Int) + 1).toNat = M + 1 by omega, rowR]
      have e0 : ∀ p, 0 ≤ lowR p [] := fun p => by unfold lowR; simp; omega
      rw [show (((0 : Nat) : Int) - lowR (List.replicate (nth (((M : Int) + 1) :: ms) 0).toNat (-1)) []).toNat = 0 by have := e0 (List.replicate (nth (((M : Int) + 1) :: ms) 0).toNat (-1)); omega]
      rfl
  | n + 1, ms, hd, hp, hn => by
    have h := keysS_cut (n := n) hd
    have e : ((stripsR ms).flatMap fun mu => (keysS (bare mu) n).map (· + (ms.sum - (bare mu).sum) * 128 ^ n)) = [] := flatMap_none fun mu hmu => by
      obtain ⟨d1, d2, d3⟩ := strips_desc hd hmu
      have hlen : n < bareLen mu mu.length := by
        by_cases h : n < bareLen mu mu.length
        · exact h
        · have h1 := bareLen_zeros mu mu.length n (by omega) (by omega)
          have h2 := (d3 n).1
          have h3 := hp (n + 1) hn
          omega
      have hle := bareLen_le mu mu.length
      have hb : (bare mu).length = bareLen mu mu.length := by unfold bare; rw [List.length_take]; omega
      rw [keysS_none (n := n) (ms := bare mu) ?_ ?_ (by omega)]
      · rfl
      · have : ∀ (l : List Int) (k : Nat), Desc l → Desc (l.take k) := by
          intro l
          induction l with
          | nil => intro k _; simp [Desc]
          | cons a l ih =>
            intro k hk
            cases k with
            | zero => simp [Desc]
            | succ k =>
              obtain ⟨a1, a2, a3⟩ := hk
              refine ⟨?_, a2, ih k a3⟩
              by_cases h : 0 < k
              · rw [nth_take h]; exact a1
              · rw [show k = 0 by omega]; exact a2
        exact this mu _ d1
      · intro j hj
        rw [hb] at hj
        unfold bare
        rw [nth_take hj]
        by_cases hj2 : j + 1 < ms.length
        · have := (d3 j).1
          have := hp (j + 1) hj2
          omega
        · have h1 := bareLen_last mu mu.length (by omega)
          rw [show bareLen mu mu.length - 1 = j by omega] at h1
          have h2 := (d3 j).1
          rw [nth_ge (l := ms) (by omega)] at h2
          omega
    rw [e] at h
    exact h.eq_nil
end Go.Proofs.Ytgbojgmmingfdaa

/- Lists of keys with coefficients, gathered; the plain law of Schur polynomials, to its end. No program is in sight here. -/
namespace Go.Proofs.Ytgbojgmmingfdaa

/-- The coefficient of a key. -/
def coefK (l : List (Int × Int)) (k : Int) : Int := (l.map fun x => if x.1 = k then x.2 else 0).sum
theorem coefK_nil (k : Int) : coefK [] k = 0 := rfl
theorem coefK_cons (x : Int × Int) (l : List (Int × Int)) (k : Int) : coefK (x :: l) k = (if x.1 = k then x.2 else 0) + coefK l k := by simp [coefK]
theorem coefK_append (a b : List (Int × Int)) (k : Int) : coefK (a ++ b) k = coefK a k + coefK b k := by simp [coefK, List.sum_append]
theorem sum_perm {a b : List Int} (h : a.Perm b) : a.sum = b.sum := by
  induction h with
  | nil => rfl
  | cons x _ ih => simp [ih]
  | swap x y l => simp; omega
  | trans _ _ h1 h2 => exact h1.trans h2
theorem coefK_perm {a b : List (Int × Int)} (h : a.Perm b) (k : Int) : coefK a k = coefK b k := sum_perm (h.map _)
theorem coefK_flatMap {α : Type} (f : α → List (Int × Int)) (k : Int) : ∀ l : List α, coefK (l.flatMap f) k = (l.map fun a => coefK (f a) k).sum
  | [] => rfl
  | a :: l => by rw [List.flatMap_cons, coefK_append, coefK_flatMap f k l, List.map_cons, List.sum_cons]
theorem coefK_shift (l : List (Int × Int)) (d k : Int) : coefK (l.map fun x => (x.1 + d, x.2)) k = coefK l (k - d) := by
  unfold coefK
  rw [List.map_map]
  congr 1
  refine List.map_congr_left fun x _ => ?_
  simp only [Function.comp]
  by_cases h : x.1 + d = k
  · rw [if_pos h, if_pos (by omega)]
  · rw [if_neg h, if_neg (by omega)]
theorem coefK_none {l : List (Int × Int)} {k : Int} (h : ∀ x ∈ l, x.1 ≠ k) : coefK l k = 0 := by
  induction l with
  | nil => rfl
  | cons x l ih => rw [coefK_cons, if_neg (h x (by simp)), ih fun y hy => h y (List.mem_cons_of_mem _ hy)]; rfl
def insK (k c : Int) : List (Int × Int) → List (Int × Int)
  | [] => if c = 0 then [] else [(k, c)]
  | x :: r => if k < x.1 then x :: insK k c r else if x.1 = k then (if x.2 + c = 0 then r else (k, x.2 + c) :: r) else if c = 0 then x :: r else (k, c) :: x :: r
/-- Terms in descending order, those that are alike added, none of them nought. -/
def gatherK (l : List (Int × Int)) : List (Int × Int) := l.foldr (fun x r => insK x.1 x.2 r) []
def SrtK (l : List (Int × Int)) : Prop := l.Pairwise (fun x y => y.1 < x.1) ∧ ∀ x ∈ l, x.2 ≠ 0
theorem srtK_tail {x : Int × Int} {r : List (Int × Int)} (h : SrtK (x :: r)) : SrtK r ∧ (∀ y ∈ r, y.1 < x.1) ∧ x.2 ≠ 0 := by
  obtain ⟨h1, h2⟩ := h
  rw [List.pairwise_cons] at h1
  exact ⟨⟨h1.2, fun y hy => h2 y (List.mem_cons_of_mem _ hy)⟩, h1.1, h2 x (by simp)⟩
theorem srtK_mk {x : Int × Int} {r : List (Int × Int)} (h1 : SrtK r) (h2 : ∀ y ∈ r, y.1 < x.1) (h3 : x.2 ≠ 0) : SrtK (x :: r) :=
  ⟨List.pairwise_cons.2 ⟨h2, h1.1⟩, fun y hy => (List.mem_cons.1 hy).elim (fun e => by rw [e]; exact h3) fun h => h1.2 y h⟩
theorem insK_key {k c : Int} : ∀ {l : List (Int × Int)} {x : Int × Int}, x ∈ insK k c l → x ∈ l ∨ x.1 = k
  | [], x, h => by
    rw [insK] at h
    split at h
    · cases h
    · rw [List.mem_singleton.1 h]; exact .inr rfl
  | y :: r, x, h => by
    rw [insK] at h
    split at h
    · rcases List.mem_cons.1 h with h | h
      · exact .inl (by rw [h]; simp)
      · exact (insK_key h).imp (List.mem_cons_of_mem _) id
    · split at h
      · split at h
        · exact .inl (List.mem_cons_of_mem _ h)
        · rcases List.mem_cons.1 h with h | h
          · exact .inr (by rw [h])
          · exact .inl (List.mem_cons_of_mem _ h)
      · split at h
        · exact .inl h
        · rcases List.mem_cons.1 h with h | h
          · exact .inr (by rw [h])
          · exact .inl h
theorem insK_srt {k c : Int} : ∀ {l : List (Int × Int)}, SrtK l → SrtK (insK k c l)
  | [], h => by
    rw [insK]
    split
    · exact h
    · rename_i hc
      exact srtK_mk h (by simp) hc
  | x :: r, h => by
    obtain ⟨h1, h2, h3⟩ := srtK_tail h
    rw [insK]
    split
    · rename_i hk
      refine srtK_mk (insK_srt h1) (fun y hy => ?_) h3
      rcases insK_key hy with hy | hy
      · exact h2 y hy
      · omega
    · split
      · rename_i hk
        split
        · exact h1
        · rename_i hc
          exact srtK_mk h1 (fun y hy => by have := h2 y hy; simp only; omega) hc
      · split
        · exact h
        · rename_i hk1 hk2 hc
          refine srtK_mk h (fun y hy => ?_) hc
          rcases List.mem_cons.1 hy with rfl | hy
          · simp only; omega
          · have := h2 y hy; simp only; omega
theorem insK_coef {k c : Int} : ∀ {l : List (Int × Int)} (j : Int), coefK (insK k c l) j = coefK l j + if k = j then c else 0
  | [], j => by
    rw [insK]
    split
    · rename_i h; simp [coefK, h]
    · simp [coefK]
  | x :: r, j => by
    rw [insK]
    split
    · rw [coefK_cons, coefK_cons, insK_coef j]; omega
    · split
      · rename_i h1 h2
        split
        · rename_i h3
          rw [coefK_cons, h2]
          split <;> omega
        · rw [coefK_cons, coefK_cons, h2]
          split <;> simp <;> omega
      · split
        · rename_i h; rw [h]; simp
        · rw [coefK_cons]
          simp only
          omega
theorem gatherK_srt (l : List (Int × Int)) : SrtK (gatherK l) := by
  induction l with
  | nil => exact ⟨List.Pairwise.nil, by simp [gatherK]⟩
  | cons x l ih => exact insK_srt ih
theorem gatherK_coef (l : List (Int × Int)) (j : Int) : coefK (gatherK l) j = coefK l j := by
  induction l with
  | nil => rfl
  | cons x l ih =>
    show coefK (insK x.1 x.2 (gatherK l)) j = _
    rw [insK_coef, ih, coefK_cons]; omega
theorem coefK_head {x : Int × Int} {r : List (Int × Int)} (h : ∀ y ∈ r, y.1 < x.1) : coefK (x :: r) x.1 = x.2 := by
  rw [coefK_cons, if_pos rfl, coefK_none fun y hy => by have := h y hy; omega]; omega
/-- There is but one such list. -/
theorem srtK_uniq : ∀ {a b : List (Int × Int)}, SrtK a → SrtK b → (∀ k, coefK a k = coefK b k) → a = b
  | [], [], _, _, _ => rfl
  | [], y :: s, _, hb, h => by
    obtain ⟨b1, b2, b3⟩ := srtK_tail hb
    have := h y.1
    rw [coefK_nil, coefK_head b2] at this
    exact absurd this.symm b3
  | x :: r, [], ha, _, h => by
    obtain ⟨a1, a2, a3⟩ := srtK_tail ha
    have := h x.1
    rw [coefK_nil, coefK_head a2] at this
    exact absurd this a3
  | x :: r, y :: s, ha, hb, h => by
    obtain ⟨a1, a2, a3⟩ := srtK_tail ha
    obtain ⟨b1, b2, b3⟩ := srtK_tail hb
    have hk : x.1 = y.1 := by
      rcases Int.lt_trichotomy x.1 y.1 with hlt | heq | hgt
      · have e := h y.1
        rw [coefK_head b2, coefK_none (l := x :: r) fun z hz => by
          rcases List.mem_cons.1 hz with rfl | hz
          · omega
          · have := a2 z hz; omega] at e
        exact absurd e.symm b3
      · exact heq
      · have e := h x.1
        rw [coefK_head a2, coefK_none (l := y :: s) fun z hz => by
          rcases List.mem_cons.1 hz with rfl | hz
          · omega
          · have := b2 z hz; omega] at e
        exact absurd e a3
    have hc : x.2 = y.2 := by
      have e := h x.1
      rw [coefK_head a2, hk, coefK_head b2] at e
      exact e
    have hxy : x = y := Prod.ext hk hc
    rw [hxy]
    congr 1
    refine srtK_uniq a1 b1 fun k => ?_
    have e := h k
    rw [coefK_cons, coefK_cons, hxy] at e
    omega
theorem gatherK_is {l m : List (Int × Int)} (hm : SrtK m) (h : ∀ k, coefK m k = coefK l k) : m = gatherK l := srtK_uniq hm (gatherK_srt l) fun k => by rw [h, gatherK_coef]
theorem gatherK_perm {a b : List (Int × Int)} (h : a.Perm b) : gatherK a = gatherK b := srtK_uniq (gatherK_srt a) (gatherK_srt b) fun k => by rw [gatherK_coef, gatherK_coef, coefK_perm h]
/-! ### Schur polynomials -/
def schurK : Nat → List Int → List (Int × Int)
  | 0, ms => if 0 < ms.length then [] else [(0, 1)]
  | n + 1, ms => if n + 1 < ms.length then [] else if ms.length = 0 then [(0, 1)] else
    gatherK ((stripsR ms).flatMap fun mu => (schurK n (bare mu)).map fun x => (x.1 + (ms.sum - (bare mu).sum) * 128 ^ n, x.2))
/-- How often a key is among keys. -/
def cntK (l : List Int) (k : Int) : Int := coefK (l.map fun x => (x, 1)) k
def Pos (l : List Int) : Prop := ∀ j, j < l.length → 1 ≤ nth l j
theorem desc_take : ∀ (l : List Int) (k : Nat), Desc l → Desc (l.take k)
  | [], k, _ => by simp [Desc]
  | a :: l, 0, _ => by simp [Desc]
  | a :: l, k + 1, h => by
    obtain ⟨a1, a2, a3⟩ := h
    refine ⟨?_, a2, desc_take l k a3⟩
    by_cases h : 0 < k
    · rw [nth_take h]; exact a1
    · rw [show k = 0 by omega]; exact a2
theorem strips_bare {ms mu : List Int} (hd : Desc ms) (hp : Pos ms) (h : mu ∈ stripsR ms) : Desc (bare mu) ∧ Pos (bare mu) := by
  obtain ⟨d1, d2, d3⟩ := strips_desc hd h
  have hb : (bare mu).length = bareLen mu mu.length := by unfold bare; rw [List.length_take]; have := bareLen_le mu mu.length; omega
  refine ⟨desc_take mu _ d1, fun j hj => ?_⟩
  rw [hb] at hj
  have hle := bareLen_le mu mu.length
  unfold bare
  rw [nth_take hj]
  by_cases hj2 : j + 1 < ms.length
  · have := (d3 j).1
    have := hp (j + 1) hj2
    omega
  · have h1 := bareLen_last mu mu.length (by omega)
    rw [show bareLen mu mu.length - 1 = j by omega] at h1
    have h2 := (d3 j).1
    rw [nth_ge (l := ms) (by omega)] at h2
    omega
theorem schurK_srt : ∀ (n : Nat) (ms : List Int), SrtK (schurK n ms)
  | 0, ms => by
    rw [schurK]
    split
    · exact ⟨List.Pairwise.nil, by simp⟩
    · exact ⟨List.pairwise_singleton _ _, by simp⟩
  | n + 1, ms => by
    rw [schurK]
    split
    · exact ⟨List.Pairwise.nil, by simp⟩
    · split
      · exact ⟨List.pairwise_singleton _ _, by simp⟩
      · exact gatherK_srt _
theorem schurK_coef : ∀ (n : Nat) (ms : List Int), Desc ms → Pos ms → ∀ k, coefK (schurK n ms) k = cntK (keysS ms n) k
  | 0, ms, hd, hp, k => by
    rw [schurK]
    split
    · rename_i h
      rw [keysS_none hd hp h]; rfl
    · rename_i h
      obtain rfl : ms = [] := List.eq_nil_of_length_eq_zero (by omega)
      rfl
  | n + 1, ms, hd, hp, k => by
    rw [schurK]
    split
    · rename_i h
      rw [keysS_none hd hp h]; rfl
    · split
      · rename_i h
        obtain rfl : ms = [] := List.eq_nil_of_length_eq_zero h
        rfl
      · rw [gatherK_coef, coefK_flatMap]
        have e := keysS_cut (n := n) hd
        unfold cntK
        rw [show ((n + 1 : Nat) : Int) = (n : Int) + 1 by omega, coefK_perm (e.map _), List.map_flatMap, coefK_flatMap]
        congr 1
        refine List.map_congr_left fun mu hmu => ?_
        obtain ⟨b1, b2⟩ := strips_bare hd hp hmu
        rw [coefK_shift, schurK_coef n (bare mu) b1 b2, List.map_map]
        unfold cntK
        rw [← coefK_shift, List.map_map]
        rfl
/-! ### how many tableaux -/
theorem upI_len (k : Int) (m : Nat) : (upI k m).length = m := by
  induction m generalizing k with
  | zero => rfl
  | succ m ih => rw [upI, List.length_cons, ih]
theorem flatMap_len {α β : Type} {f : α → List β} {b : Nat} : ∀ {l : List α}, (∀ a ∈ l, (f a).length ≤ b) → (l.flatMap f).length ≤ l.length * b
  | [], _ => by simp
  | a :: l, h => by
    rw [List.flatMap_cons, List.length_append, List.length_cons, Nat.add_mul, Nat.one_mul]
    have h1 := h a (by simp)
    have h2 := flatMap_len (l := l) fun b hb => h b (List.mem_cons_of_mem _ hb)
    omega
theorem rowR_len {n : Nat} {p : List Int} : ∀ (k : Nat) (acc : List Int), (∀ x ∈ acc, 0 ≤ x) → (rowR n p k acc).length ≤ n ^ k
  | 0, acc, _ => by rw [rowR]; simp
  | k + 1, acc, h => by
    have h0 : 0 ≤ lowR p acc := by
      unfold lowR
      have : (0 : Int) ≤ if acc.length = 0 then 0 else nth acc (acc.length - 1) := by
        split
        · omega
        · exact h _ (nth_mem (by omega))
      omega
    rw [rowR]
    refine Nat.le_trans (flatMap_len (b := n ^ k) fun x hx => ?_) ?_
    · have hx := upI_mem.1 hx
      exact rowR_len k (acc ++ [x]) fun y hy => by
        rcases List.mem_append.1 hy with hy | hy
        · exact h y hy
        · rw [List.mem_singleton.1 hy]; omega
    · rw [upI_len, Nat.pow_succ, Nat.mul_comm]
      exact Nat.mul_le_mul_left _ (by omega)
theorem tabR_len {n : Nat} : ∀ (ms p : List Int), (tabR n p ms).length ≤ n ^ (ms.map Int.toNat).sum
  | [], p => by rw [tabR]; simp
  | m :: ms, p => by
    rw [tabR, List.map_cons, List.sum_cons, Nat.pow_add]
    refine Nat.le_trans (flatMap_len (b := n ^ (ms.map Int.toNat).sum) fun r _ => ?_) (Nat.mul_le_mul_right _ (rowR_len _ _ (by simp)))
    rw [List.length_map]
    exact tabR_len ms r
theorem sum_nat : ∀ {ms : List Int}, Desc ms → (((ms.map Int.toNat).sum : Nat) : Int) = ms.sum
  | [], _ => rfl
  | m :: ms, h => by
    obtain ⟨h1, h2, h3⟩ := h
    have := sum_nat h3
    rw [List.map_cons, List.sum_cons, List.sum_cons]
    omega
theorem tabs_len {n : Nat} {ms : List Int} (hd : Desc ms) (h8 : ms.sum ≤ 8) (hn : n ≤ 7) : (tabs ms n).length ≤ 5764801 := by
  unfold tabs
  refine Nat.le_trans (tabR_len ms _) ?_
  have h := sum_nat hd
  refine Nat.le_trans (Nat.pow_le_pow_left hn _) ?_
  exact Nat.le_trans (Nat.pow_le_pow_right (by omega) (show _ ≤ 8 by omega)) (by decide)
end Go.Proofs.Ytgbojgmmingfdaa
