/- The relations of the operators of Demazure, at polynomials with exponents from 0 to 4. -/
import Derived.Test.YtgbojgmmingfdaaBraid
namespace Go.Proofs.Ytgbojgmmingfdaa

def w3 (e : List Int) (i : Nat) (t : Int × Int × Int) : List Int := ((e.set i t.1).set (i + 1) t.2.1).set (i + 2) t.2.2
theorem w3_len (e : List Int) (i : Nat) (t : Int × Int × Int) : (w3 e i t).length = e.length := by simp [w3]
theorem nth_w3 {e : List Int} {i j : Nat} (t : Int × Int × Int) (hj : j < e.length) : nth (w3 e i t) j = if j = i then t.1 else if j = i + 1 then t.2.1 else if j = i + 2 then t.2.2 else nth e j := by
  unfold w3
  by_cases h2 : j = i + 2
  · rw [h2, nth_set_eq (by simp; omega), if_neg (by omega), if_neg (by omega), if_pos rfl]
  rw [nth_set_ne (by omega)]
  by_cases h1 : j = i + 1
  · rw [h1, nth_set_eq (by simp; omega), if_neg (by omega), if_pos rfl]
  rw [nth_set_ne (by omega)]
  by_cases h0 : j = i
  · rw [h0, nth_set_eq (by omega), if_pos rfl]
  rw [nth_set_ne (by omega), if_neg h0, if_neg h1, if_neg h2]
theorem nth_swE {e : List Int} {i j : Nat} (t u : Int) (hj : j < e.length) : nth (swE e i t u) j = if j = i then u else if j = i + 1 then t else nth e j := by
  by_cases h0 : j = i
  · rw [if_pos h0, h0, swE_at0 _ _ (by omega)]
  by_cases h1 : j = i + 1
  · rw [if_neg h0, if_pos h1, h1, swE_at1 _ _ (by omega)]
  · rw [swE_ne _ _ h0 h1, if_neg h0, if_neg h1]
theorem w3_self {e : List Int} {i : Nat} : w3 e i (nth e i, nth e (i + 1), nth e (i + 2)) = e := by
  refine ext_nth (w3_len _ _ _) fun j hj => ?_
  rw [w3_len] at hj
  rw [nth_w3 _ hj]
  split
  · rename_i h; rw [h]
  · split
    · rename_i h; rw [h]
    · split
      · rename_i h; rw [h]
      · rfl
theorem swE_w3_0 {e : List Int} {i : Nat} (t : Int × Int × Int) (a b : Int) : swE (w3 e i t) i b a = w3 e i (a, b, t.2.2) := by
  refine ext_nth (by rw [swE_len, w3_len, w3_len]) fun j hj => ?_
  rw [swE_len, w3_len] at hj
  rw [nth_swE _ _ (by rw [w3_len]; exact hj), nth_w3 _ hj, nth_w3 _ hj]
  by_cases h0 : j = i
  · simp [h0]
  by_cases h1 : j = i + 1
  · simp [h1]
  · simp [h0, h1]
theorem swE_w3_1 {e : List Int} {i : Nat} (t : Int × Int × Int) (a b : Int) : swE (w3 e i t) (i + 1) b a = w3 e i (t.1, a, b) := by
  refine ext_nth (by rw [swE_len, w3_len, w3_len]) fun j hj => ?_
  rw [swE_len, w3_len] at hj
  rw [nth_swE _ _ (by rw [w3_len]; exact hj), nth_w3 _ hj, nth_w3 _ hj]
  by_cases h0 : j = i
  · simp only [h0, if_true]; rw [if_neg (by omega), if_neg (by omega)]
  by_cases h1 : j = i + 1
  · simp [h1]
  by_cases h2 : j = i + 2
  · simp [h2]
  · have h3 : ¬ j = i + 1 + 1 := by omega
    simp [h0, h1, h2, h3]
theorem opT_loc {e : List Int} {i : Nat} (φ : List Int → Int) (hi : i + 1 < e.length) : opT i φ e = ((loc (nth e i) (nth e (i + 1))).map fun t => t.2.2 * φ (swE e i t.2.1 t.1)).sum := by
  unfold opT smP
  rw [dE_loc hi, List.map_map]
  rfl
theorem opT_t0 {e : List Int} {i : Nat} (φ : List Int → Int) (t : Int × Int × Int) (hi : i + 1 < e.length) : opT i φ (w3 e i t) = smM (fun x => φ (w3 e i x)) (t0 t) := by
  rw [opT_loc φ (by rw [w3_len]; exact hi), nth_w3 _ (by omega), nth_w3 _ hi, if_pos rfl, if_neg (by omega), if_pos rfl]
  unfold smM t0
  rw [List.map_map]
  congr 1
  refine List.map_congr_left fun x _ => ?_
  simp only [Function.comp]
  rw [swE_w3_0]
theorem opT_t1 {e : List Int} {i : Nat} (φ : List Int → Int) (t : Int × Int × Int) (hi : i + 2 < e.length) : opT (i + 1) φ (w3 e i t) = smM (fun x => φ (w3 e i x)) (t1 t) := by
  rw [opT_loc φ (by rw [w3_len]; exact hi), nth_w3 _ (by omega), nth_w3 _ (by omega), if_neg (by omega), if_pos rfl, if_neg (by omega), if_neg (by omega), if_pos rfl]
  unfold smM t1
  rw [List.map_map]
  congr 1
  refine List.map_congr_left fun x _ => ?_
  simp only [Function.comp]
  rw [swE_w3_1]
theorem opT_idem {e : List Int} {i : Nat} (φ : List Int → Int) (he : Gd e) (hi : i < 6) : opT i (opT i φ) e = opT i φ e := by
  have h7 := he.1
  rw [← w3_self (e := e) (i := i), opT_t0 _ _ (by omega), opT_t0 _ _ (by omega)]
  rw [show (fun x => opT i φ (w3 e i x)) = fun x => smM (fun x => φ (w3 e i x)) (t0 x) from funext fun x => opT_t0 _ _ (by omega)]
  exact idem_at (he.2 _) (he.2 _) (he.2 _) _
theorem opT_braid {e : List Int} {i : Nat} (φ : List Int → Int) (he : Gd e) (hi : i < 5) : opT i (opT (i + 1) (opT i φ)) e = opT (i + 1) (opT i (opT (i + 1) φ)) e := by
  have h7 := he.1
  rw [← w3_self (e := e) (i := i), opT_t0 _ _ (by omega), opT_t1 _ _ (by omega)]
  rw [show (fun x => opT (i + 1) (opT i φ) (w3 e i x)) = fun x => smM (fun x => opT i φ (w3 e i x)) (t1 x) from funext fun x => opT_t1 _ _ (by omega)]
  rw [show (fun x => opT i φ (w3 e i x)) = fun x => smM (fun x => φ (w3 e i x)) (t0 x) from funext fun x => opT_t0 _ _ (by omega)]
  rw [show (fun x => opT i (opT (i + 1) φ) (w3 e i x)) = fun x => smM (fun x => opT (i + 1) φ (w3 e i x)) (t0 x) from funext fun x => opT_t0 _ _ (by omega)]
  rw [show (fun x => opT (i + 1) φ (w3 e i x)) = fun x => smM (fun x => φ (w3 e i x)) (t1 x) from funext fun x => opT_t1 _ _ (by omega)]
  exact braid_at (he.2 _) (he.2 _) (he.2 _) _
theorem sum_swap {α β : Type} (F : α → β → Int) (l : List α) (m : List β) : (l.map fun a => (m.map fun b => F a b).sum).sum = (m.map fun b => (l.map fun a => F a b).sum).sum := by
  induction l with
  | nil =>
    have : ∀ m : List β, (m.map fun _ => (0 : Int)).sum = 0 := fun m => by
      induction m with
      | nil => rfl
      | cons b m ih => rw [List.map_cons, List.sum_cons, ih]; rfl
    simp only [List.map_nil, List.sum_nil]
    exact (this m).symm
  | cons a l ih =>
    rw [List.map_cons, List.sum_cons, ih]
    have : ∀ m : List β, (m.map fun b => F a b).sum + (m.map fun b => (l.map fun a => F a b).sum).sum = (m.map fun b => ((a :: l).map fun a => F a b).sum).sum := fun m => by
      induction m with
      | nil => rfl
      | cons b m ihm => simp only [List.map_cons, List.sum_cons] at ihm ⊢; omega
    exact this m
theorem sum_mul_left (c : Int) (l : List Int) : c * l.sum = (l.map fun x => c * x).sum := by
  induction l with
  | nil => simp
  | cons a l ih => rw [List.sum_cons, List.map_cons, List.sum_cons, Int.mul_add, ih]
theorem opT_comm {e : List Int} {i j : Nat} (φ : List Int → Int) (he : Gd e) (hij : i + 1 < j) (hj : j < 6) : opT i (opT j φ) e = opT j (opT i φ) e := by
  have h7 := he.1
  rw [opT_loc _ (by omega), opT_loc _ (by omega)]
  have h1 : ∀ t : Int × Int × Int, opT j φ (swE e i t.2.1 t.1) = ((loc (nth e j) (nth e (j + 1))).map fun u => u.2.2 * φ (swE (swE e i t.2.1 t.1) j u.2.1 u.1)).sum := fun t => by
    rw [opT_loc _ (by rw [swE_len]; omega), swE_ne _ _ (by omega) (by omega), swE_ne _ _ (by omega) (by omega)]
  have h2 : ∀ t : Int × Int × Int, opT i φ (swE e j t.2.1 t.1) = ((loc (nth e i) (nth e (i + 1))).map fun u => u.2.2 * φ (swE (swE e j t.2.1 t.1) i u.2.1 u.1)).sum := fun t => by
    rw [opT_loc _ (by rw [swE_len]; omega), swE_ne _ _ (by omega) (by omega), swE_ne _ _ (by omega) (by omega)]
  simp only [h1, h2, sum_mul_left, List.map_map]
  rw [sum_swap]
  congr 1
  refine List.map_congr_left fun u _ => ?_
  congr 1
  refine List.map_congr_left fun t _ => ?_
  simp only [Function.comp]
  have e1 : swE (swE e i t.2.1 t.1) j u.2.1 u.1 = swE (swE e j u.2.1 u.1) i t.2.1 t.1 := by
    refine ext_nth (by simp only [swE_len]) fun k hk => ?_
    simp only [swE_len] at hk
    rw [nth_swE _ _ (by rw [swE_len]; exact hk), nth_swE _ _ hk, nth_swE _ _ (by rw [swE_len]; exact hk), nth_swE _ _ hk]
    repeat' split
    all_goals first | rfl | omega
  rw [e1, ← Int.mul_assoc, ← Int.mul_assoc, Int.mul_comm t.2.2]
theorem dem_idem {f : List (List Int × Int)} {i : Nat} (hf : ∀ x ∈ f, Gd x.1) (hi : i < 6) : Alk (demT i (demT i f)) (demT i f) := fun φ => by
  rw [smP_dem, smP_dem, smP_dem]
  exact smP_congr hf fun e he => opT_idem φ he hi
theorem dem_braid {f : List (List Int × Int)} {i : Nat} (hf : ∀ x ∈ f, Gd x.1) (hi : i < 5) : Alk (demT i (demT (i + 1) (demT i f))) (demT (i + 1) (demT i (demT (i + 1) f))) := fun φ => by
  rw [smP_dem, smP_dem, smP_dem, smP_dem, smP_dem, smP_dem]
  exact smP_congr hf fun e he => opT_braid φ he hi
theorem dem_comm {f : List (List Int × Int)} {i j : Nat} (hf : ∀ x ∈ f, Gd x.1) (hij : i + 1 < j) (hj : j < 6) : Alk (demT i (demT j f)) (demT j (demT i f)) := fun φ => by
  rw [smP_dem, smP_dem, smP_dem, smP_dem]
  exact smP_congr hf fun e he => (opT_comm φ he hij hj).symm
end Go.Proofs.Ytgbojgmmingfdaa

/- The law of key polynomials, in plain words: an operator sorts two exponents, or leaves the polynomial as it is. -/
namespace Go.Proofs.Ytgbojgmmingfdaa

theorem coef_smP (q : Int) (f : List (List Int × Int)) : coefK (f.map kc) q = smP (fun e => if keyL e = q then 1 else 0) f := by
  induction f with
  | nil => rfl
  | cons x f ih =>
    rw [List.map_cons, coefK_cons, ih, smP_cons]
    show (if keyL x.1 = q then x.2 else 0) + _ = _
    split <;> omega
theorem Alk.gather {f g : List (List Int × Int)} (h : Alk f g) : gatherK (f.map kc) = gatherK (g.map kc) := gatherK_congr fun q => by rw [coef_smP, coef_smP, h]
theorem gk_back (ψ : List Int → Int) {g : List (List Int × Int)} (hg : ∀ x ∈ g, x.1.length = 7 ∧ Ex128 x.1) : smP ψ ((gatherK (g.map kc)).map exT) = smP ψ g := by
  have h1 := smK_gather (fun k => ψ (expL k)) (g.map kc)
  unfold smP
  rw [List.map_map]
  have e1 : ((gatherK (g.map kc)).map ((fun x : List Int × Int => x.2 * ψ x.1) ∘ exT)).sum = ((gatherK (g.map kc)).map fun x => x.2 * (fun k => ψ (expL k)) x.1).sum := rfl
  rw [e1, h1, List.map_map]
  congr 1
  refine List.map_congr_left fun x hx => ?_
  show x.2 * ψ (expL (keyL x.1)) = _
  rw [expL_keyL (hg x hx).1 (hg x hx).2]
theorem Gd.ex {e : List Int} (h : Gd e) : e.length = 7 ∧ Ex128 e := ⟨h.1, fun j _ => by have := h.2 j; omega⟩
theorem smP_div (i : Nat) (φ : List Int → Int) (f : List (List Int × Int)) : smP φ (divL i f) = smP (fun e => smP φ (dvT i (e, 1))) f := by
  induction f with
  | nil => rfl
  | cons x f ih =>
    have e : divL i (x :: f) = dvT i (x.1, x.2) ++ divL i f := rfl
    rw [e, smP_app, smP_cons, ih]
    congr 1
    exact dvs_scale i x.1 x.2 _ φ
theorem smP_ra (i : Nat) (φ : List Int → Int) (f : List (List Int × Int)) : smP φ (raL i f) = smP (fun e => φ (upE i e)) f := by
  unfold smP raL
  rw [List.map_map]; rfl
theorem back_good {f : List (List Int × Int)} (hf : ∀ x ∈ f, Gd x.1) : ∀ x ∈ (gatherK (f.map kc)).map exT, Gd x.1 := fun x hx => by
  obtain ⟨y, hy, rfl⟩ := List.mem_map.1 hx
  obtain ⟨z, hz, e⟩ := gatherK_mem hy
  obtain ⟨t, ht, rfl⟩ := List.mem_map.1 hz
  show Gd (expL y.1)
  rw [← e]
  show Gd (expL (keyL t.1))
  rw [expL_keyL (hf t ht).ex.1 (hf t ht).ex.2]
  exact hf t ht
theorem demK_T {i : Nat} {f : List (List Int × Int)} (hi : i < 6) (hf : ∀ x ∈ f, Gd x.1) : demK i (gatherK (f.map kc)) = gatherK ((demT i f).map kc) := by
  unfold demK divK
  refine Alk.gather fun φ => ?_
  rw [smP_div]
  unfold raiK
  rw [gk_back, smP_ra, gk_back, demT, smP_div, smP_ra]
  · exact fun x hx => (hf x hx).ex
  · intro x hx
    obtain ⟨y, hy, rfl⟩ := List.mem_map.1 hx
    have h1 := upE_ok (E := 4) (back_good hf y hy) (i := i) (by omega)
    exact ⟨h1.1, fun j _ => by have := h1.2 j; simp only; omega⟩
def keyX : Nat → List Int → List (List Int × Int)
  | 0, e => [(padL e 7, 1)]
  | n + 1, e => match firstAsc e with
    | none => [(padL e 7, 1)]
    | some j => demT j (keyX n (swA j e))
def Ok5 (e : List Int) : Prop := e.length ≤ 5 ∧ ∀ j, 0 ≤ nth e j ∧ nth e j ≤ 4
theorem Ok5.swA {e : List Int} (h : Ok5 e) (j : Nat) : Ok5 (swA j e) := ⟨by rw [swA_len]; exact h.1, swA_all (P := fun x => 0 ≤ x ∧ x ≤ 4) ⟨by omega, by omega⟩ h.2⟩
theorem Ok5.pad {e : List Int} (h : Ok5 e) : Gd (padL e 7) := ⟨padL_len (by have := h.1; omega), fun j => by rw [nth_padL]; exact h.2 j⟩
theorem asc_cases (e : List Int) : (∃ j, j + 1 < e.length ∧ nth e j < nth e (j + 1) ∧ firstAsc e = some j ∧ ∀ i, i < j → ¬ nth e i < nth e (i + 1)) ∨ ((∀ i, i + 1 < e.length → ¬ nth e i < nth e (i + 1)) ∧ firstAsc e = none) := by
  have key : ∀ n, n ≤ e.length - 1 → (∃ j, j < n ∧ nth e j < nth e (j + 1) ∧ ∀ i, i < j → ¬ nth e i < nth e (i + 1)) ∨ ∀ i, i < n → ¬ nth e i < nth e (i + 1) := by
    intro n
    induction n with
    | zero => intro _; exact .inr fun i hi => by omega
    | succ n ih =>
      intro hn
      rcases ih (by omega) with ⟨j, h1, h2, h3⟩ | h
      · exact .inl ⟨j, by omega, h2, h3⟩
      · by_cases hb : nth e n < nth e (n + 1)
        · exact .inl ⟨n, by omega, hb, h⟩
        · refine .inr fun i hi => ?_
          by_cases hin : i = n
          · rw [hin]; exact hb
          · exact h i (by omega)
  rcases key (e.length - 1) (Nat.le_refl _) with ⟨j, h1, h2, h3⟩ | h
  · exact .inl ⟨j, by omega, h2, firstAsc_some (by omega) h2 h3, h3⟩
  · have h' : ∀ i, i + 1 < e.length → ¬ nth e i < nth e (i + 1) := fun i hi => h i (by omega)
    exact .inr ⟨h', firstAsc_none h'⟩
theorem keyX_good : ∀ (n : Nat) (e : List Int), Ok5 e → ∀ x ∈ keyX n e, Gd x.1
  | 0, e, h, x, hx => by
    obtain rfl : x = (padL e 7, 1) := by simpa [keyX] using hx
    exact h.pad
  | n + 1, e, h, x, hx => by
    rw [keyX] at hx
    rcases asc_cases e with ⟨j, h1, h2, h3, -⟩ | ⟨-, h3⟩
    · rw [h3] at hx
      exact dem_good (by have := h.1; omega) (keyX_good n (swA j e) (h.swA j)) x hx
    · rw [h3] at hx
      obtain rfl : x = (padL e 7, 1) := by simpa using hx
      exact h.pad
theorem gather_one {k : Int} : gatherK [(k, 1)] = [(k, 1)] := by simp [gatherK, insK]
theorem keyM_T : ∀ (n : Nat) (e : List Int), Ok5 e → keyM n e = gatherK ((keyX n e).map kc)
  | 0, e, h => gather_one.symm
  | n + 1, e, h => by
    rw [keyX, keyM]
    rcases asc_cases e with ⟨j, h1, h2, h3, -⟩ | ⟨-, h3⟩
    · rw [h3]
      show demK j (keyM n (swA j e)) = gatherK ((demT j (keyX n (swA j e))).map kc)
      rw [keyM_T n (swA j e) (h.swA j), demK_T (by have := h.1; omega) (keyX_good n _ (h.swA j))]
    · rw [h3]; exact gather_one.symm
end Go.Proofs.Ytgbojgmmingfdaa
