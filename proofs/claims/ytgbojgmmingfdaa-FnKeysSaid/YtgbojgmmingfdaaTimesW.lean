/- times of the program: the product of two polynomials. -/
import Derived.Test.YtgbojgmmingfdaaPlusW
namespace Go.Proofs.Ytgbojgmmingfdaa
open Go.RowKit Go.Maps Go.MapKept Go.WideMaps

def addE (a b : List Int) : List Int := gen (fun j => nth a j + nth b j) 7
def mixE (a b : List Int) (i : Nat) : List Int := gen (fun j => if j < i then nth a j + nth b j else nth a j) 7
theorem mixE_len (a b : List Int) (i : Nat) : (mixE a b i).length = 7 := gen_len _ _
theorem mixE_zero {a b : List Int} (h : a.length = 7) : mixE a b 0 = a := by
  refine ext_nth (by rw [mixE_len, h]) fun j hj => ?_
  rw [mixE_len] at hj
  rw [mixE, nth_gen hj, if_neg (by omega)]
theorem mixE_all (a b : List Int) : mixE a b 7 = addE a b := by
  refine ext_nth (by rw [mixE_len, addE, gen_len]) fun j hj => ?_
  rw [mixE_len] at hj
  rw [mixE, addE, nth_gen hj, nth_gen hj, if_pos hj]
theorem mixE_at {a b : List Int} {i : Nat} (h : i < 7) : nth (mixE a b i) i = nth a i := by rw [mixE, nth_gen h, if_neg (by omega)]
theorem mixE_set {a b : List Int} {i : Nat} (h : i < 7) : (mixE a b i).set i (nth a i + nth b i) = mixE a b (i + 1) := by
  refine ext_nth (by rw [List.length_set, mixE_len, mixE_len]) fun j hj => ?_
  rw [List.length_set, mixE_len] at hj
  by_cases hji : i = j
  · subst hji
    rw [nth_set_eq (by rw [mixE_len]; exact hj), mixE, nth_gen hj, if_pos (by omega)]
  · rw [nth_set_ne hji, mixE, mixE, nth_gen hj, nth_gen hj]
    by_cases h2 : j < i
    · rw [if_pos h2, if_pos (by omega)]
    · rw [if_neg h2, if_neg (by omega)]
theorem addE_at (a b : List Int) {j : Nat} (h : j < 7) : nth (addE a b) j = nth a j + nth b j := by rw [addE, nth_gen h]
theorem keyL_add (a b : List Int) : keyL (addE a b) = keyL a + keyL b := by
  rw [keyL_low, keyL_low, keyL_low]
  have : ∀ n, n ≤ 7 → lowN (addE a b) n = lowN a n + lowN b n := fun n => by
    induction n with
    | zero => intro _; rfl
    | succ n ih =>
      intro hn
      rw [lowN, lowN, lowN, ih (by omega), addE_at a b (by omega), Int.add_mul]; omega
  exact this 7 (Nat.le_refl _)
def prodT (f g : List (List Int × Int)) : List (List Int × Int) := f.flatMap fun a => g.map fun b => (addE a.1 b.1, a.2 * b.2)
def timesK (L M : List (Int × Int)) : List (Int × Int) := gatherK (L.flatMap fun a => M.map fun b => (a.1 + b.1, a.2 * b.2))
theorem prodT_kc (f g : List (List Int × Int)) : (prodT f g).map kc = (f.map kc).flatMap fun a => (g.map kc).map fun b => (a.1 + b.1, a.2 * b.2) := by
  unfold prodT
  rw [List.map_flatMap, List.flatMap_map]
  refine flatMap_same fun a _ => ?_
  rw [List.map_map, List.map_map]
  refine List.map_congr_left fun b _ => ?_
  simp only [Function.comp, kc]
  rw [keyL_add]
def oneT (a : List Int × Int) (g : List (List Int × Int)) : List (List Int × Int) := g.map fun b => (addE a.1 b.1, a.2 * b.2)
theorem prodT_snoc (f g : List (List Int × Int)) (a : List Int × Int) : prodT (f ++ [a]) g = prodT f g ++ oneT a g := by simp [prodT, oneT]
theorem oneT_snoc (a b : List Int × Int) (g : List (List Int × Int)) : oneT a (g ++ [b]) = oneT a g ++ [(addE a.1 b.1, a.2 * b.2)] := by simp [oneT]
theorem oneT_abs (a : List Int × Int) (g : List (List Int × Int)) : absT (oneT a g) = a.2.natAbs * absT g := by
  induction g with
  | nil => simp [oneT, absT]
  | cons x g ih =>
    have e : oneT a (x :: g) = (addE a.1 x.1, a.2 * x.2) :: oneT a g := rfl
    rw [e, absT_cons, absT_cons, ih, Int.natAbs_mul, Nat.mul_add]
theorem prodT_abs (f g : List (List Int × Int)) : absT (prodT f g) = absT f * absT g := by
  induction f with
  | nil => simp [prodT, absT]
  | cons a f ih =>
    have e : prodT (a :: f) g = oneT a g ++ prodT f g := by simp [prodT, oneT]
    rw [e, absT_app, oneT_abs, ih, absT_cons, Nat.add_mul]
theorem prodT_perm {f g f' g' : List (List Int × Int)} (h1 : f.Perm f') (h2 : g.Perm g') : (prodT f g).Perm (prodT f' g') := by
  refine (h1.flatMap_right _).trans (perm_flatMap fun a _ => h2.map _)
theorem prodT_ok {E1 E2 : Int} {f g : List (List Int × Int)} (hf : ∀ x ∈ f, x.1.length = 7 ∧ ∀ j, 0 ≤ nth x.1 j ∧ nth x.1 j ≤ E1) (hg : ∀ x ∈ g, x.1.length = 7 ∧ ∀ j, 0 ≤ nth x.1 j ∧ nth x.1 j ≤ E2) (hE : 0 ≤ E1 + E2) : ∀ x ∈ prodT f g, x.1.length = 7 ∧ ∀ j, 0 ≤ nth x.1 j ∧ nth x.1 j ≤ E1 + E2 := fun x hx => by
  obtain ⟨a, ha, hx⟩ := List.mem_flatMap.1 hx
  obtain ⟨b, hb, rfl⟩ := List.mem_map.1 hx
  refine ⟨gen_len _ _, fun j => ?_⟩
  by_cases hj : j < 7
  · rw [addE_at _ _ hj]
    have := (hf a ha).2 j
    have := (hg b hb).2 j
    omega
  · rw [nth_ge (by rw [addE, gen_len]; omega)]; omega
/-- What the product's map holds on the way. -/
structure TimS (H : Type) (w w' : World) (E : Int) (cnt : Nat) (X : List (List Int × Int)) : Prop where
  ex : ∃ acc, PM H w' w.heap.size cnt acc ∧ PolE E acc ∧ absT acc ≤ absT X ∧ ∀ q, coefK (acc.map kc) q = coefK (X.map kc) q
  bel : Below w.heap.size w w'
theorem TimS.below {H : Type} {w w1 w2 : World} {E : Int} {cnt : Nat} {X : List (List Int × Int)} (h : TimS H w w1 E cnt X) (b : Below w1.heap.size w1 w2) : TimS H w w2 E cnt X := by
  obtain ⟨⟨acc, h1, h2⟩, h3⟩ := h
  exact ⟨⟨acc, h1.same (b.block _ h1.lt), h2⟩, h3.trans (b.mono h3.size)⟩
theorem TimS.kept {H : Type} {w w1 w2 : World} {E : Int} {cnt r : Nat} {X : List (List Int × Int)} (h : TimS H w w1 E cnt X) (g : w1.grownBy w2 (some r)) (hr : w.heap.size < r) : TimS H w w2 E cnt X := by
  obtain ⟨⟨acc, h1, h2⟩, h3⟩ := h
  exact ⟨⟨acc, h1.same (g.block _ h1.lt fun e => by injection e; omega), h2⟩, h3.grown g h3.size fun k hk => by injection hk; omega⟩
theorem TimS.lt {H : Type} {w w1 : World} {E : Int} {cnt : Nat} {X : List (List Int × Int)} (h : TimS H w w1 E cnt X) : w.heap.size < w1.heap.size := by
  obtain ⟨⟨acc, h1, h2⟩, h3⟩ := h
  exact h1.lt
/-- One more term. -/
theorem TimS.add {H : Type} {w W : World} {E : Int} {cnt : Nat} {X : List (List Int × Int)} {x : List Int × Int} (h : TimS H w W E cnt X) (hx : x.1.length = 7 ∧ ∀ j, 0 ≤ nth x.1 j ∧ nth x.1 j ≤ E) (hE : E ≤ 1000000) (hn : cnt ≤ 100000000) (hA : absT (X ++ [x]) ≤ 1000000000000000000) :
    Calls Try.prog 65 #[.map (some w.heap.size), kv x.1, .int .i64 x.2] W (fun r w' => r = .returned (.tuple #[]) ∧ TimS H w w' E (cnt + 1) (X ++ [x]) ∧ W.grownBy w' (some w.heap.size)) := by
  obtain ⟨⟨acc, h1, h2, h3, h4⟩, h5⟩ := h
  have h6 := h2.cf_abs x.1
  have he : Ex7 x.1 := ⟨hx.1, fun y hy => by
    obtain ⟨j, hj, rfl⟩ := List.getElem_of_mem hy
    have := hx.2 j
    rw [nth_lt hj] at this
    exact WalkArith.wf_i64 (by omega)⟩
  rw [absT_app, absT_cons] at hA
  refine (addM_any h1 (by unfold maxLen; omega) he (by omega)).mono ?_
  rintro r w' ⟨hr, p1, p2⟩
  refine ⟨hr, ⟨⟨_, p1, h2.add x.2 hx, ?_, fun q => ?_⟩, h5.grown p2 h5.size fun k hk => by injection hk; omega⟩, p2⟩
  · have := addP_abs (acc := acc) (e := x.1) (c := x.2)
    rw [absT_app, absT_cons]; omega
  · rw [coef_addP, h4, List.map_append, coefK_append, List.map_cons, List.map_nil, coefK_cons, coefK_nil]
    show _ = _ + ((if keyL x.1 = q then x.2 else 0) + 0)
    omega
end Go.Proofs.Ytgbojgmmingfdaa

/- divided of the program: what it leaves of each term. -/
namespace Go.Proofs.Ytgbojgmmingfdaa
open Go.RowKit Go.Maps Go.MapKept Go.WideMaps

/-- The exponents with two of them put anew. -/
def swE (e : List Int) (i : Nat) (t u : Int) : List Int := (e.set (i + 1) t).set i u
theorem swE_len (e : List Int) (i : Nat) (t u : Int) : (swE e i t u).length = e.length := by simp [swE]
theorem swE_at0 {e : List Int} {i : Nat} (t u : Int) (h : i < e.length) : nth (swE e i t u) i = u := by rw [swE, nth_set_eq (by rw [List.length_set]; exact h)]
theorem swE_at1 {e : List Int} {i : Nat} (t u : Int) (h : i + 1 < e.length) : nth (swE e i t u) (i + 1) = t := by rw [swE, nth_set_ne (by omega), nth_set_eq h]
theorem swE_ne {e : List Int} {i j : Nat} (t u : Int) (h0 : j ≠ i) (h1 : j ≠ i + 1) : nth (swE e i t u) j = nth e j := by rw [swE, nth_set_ne (by omega), nth_set_ne (by omega)]
theorem swE_same {e : List Int} {i : Nat} : swE e i (nth e (i + 1)) (nth e i) = e := by
  refine ext_nth (swE_len _ _ _ _) fun j hj => ?_
  rw [swE_len] at hj
  by_cases h0 : j = i
  · rw [h0, swE_at0 _ _ (by omega)]
  by_cases h1 : j = i + 1
  · rw [h1, swE_at1 _ _ (by omega)]
  · rw [swE_ne _ _ h0 h1]
theorem swE_set1 (e : List Int) (i : Nat) (t u t' : Int) : (swE e i t u).set (i + 1) t' = swE e i t' u := by
  unfold swE
  rw [List.set_comm _ _ (by omega), List.set_set]
theorem swE_set0 (e : List Int) (i : Nat) (t u u' : Int) : (swE e i t u).set i u' = swE e i t u' := by unfold swE; rw [List.set_set]
def dLo (e : List Int) (i : Nat) : Int := min (nth e i) (nth e (i + 1))
def dHi (e : List Int) (i : Nat) : Int := max (nth e i) (nth e (i + 1))
def dC (e : List Int) (i : Nat) (c : Int) : Int := if nth e i < nth e (i + 1) then -c else c
/-- The first of the terms that a term leaves. -/
def dvs (i : Nat) (x : List Int × Int) (m : Nat) : List (List Int × Int) := (List.range m).map fun k : Nat => (swE x.1 i (dLo x.1 i + k) (dHi x.1 i - 1 - k), dC x.1 i x.2)
def dvT (i : Nat) (x : List Int × Int) : List (List Int × Int) := dvs i x (dHi x.1 i - dLo x.1 i).toNat
def divL (i : Nat) (f : List (List Int × Int)) : List (List Int × Int) := f.flatMap (dvT i)
theorem dvs_zero (i : Nat) (x : List Int × Int) : dvs i x 0 = [] := rfl
theorem dvs_succ (i : Nat) (x : List Int × Int) (m : Nat) : dvs i x (m + 1) = dvs i x m ++ [(swE x.1 i (dLo x.1 i + m) (dHi x.1 i - 1 - m), dC x.1 i x.2)] := by simp [dvs, List.range_succ]
theorem dvs_len (i : Nat) (x : List Int × Int) (m : Nat) : (dvs i x m).length = m := by simp [dvs]
theorem divL_snoc (i : Nat) (f : List (List Int × Int)) (x : List Int × Int) : divL i (f ++ [x]) = divL i f ++ dvT i x := by simp [divL]
theorem dC_abs (e : List Int) (i : Nat) (c : Int) : (dC e i c).natAbs = c.natAbs := by unfold dC; split <;> omega
theorem dvs_abs (i : Nat) (x : List Int × Int) (m : Nat) : absT (dvs i x m) = m * x.2.natAbs := by
  induction m with
  | zero => simp [dvs, absT]
  | succ m ih =>
    rw [dvs_succ, absT_app, ih, absT_cons]
    simp only [dC_abs]
    have : absT [] = 0 := rfl
    rw [this, Nat.add_mul]
    omega
theorem dv_N {E : Int} {e : List Int} {i : Nat} (h : ∀ j, 0 ≤ nth e j ∧ nth e j ≤ E) : (dHi e i - dLo e i).toNat ≤ E.toNat := by
  have := h i
  have := h (i + 1)
  unfold dHi dLo
  omega
theorem divL_abs {E : Int} {i : Nat} {f : List (List Int × Int)} (h : ∀ x ∈ f, ∀ j, 0 ≤ nth x.1 j ∧ nth x.1 j ≤ E) : absT (divL i f) ≤ absT f * E.toNat := by
  induction f with
  | nil => simp [divL, absT]
  | cons x f ih =>
    have e : divL i (x :: f) = dvT i x ++ divL i f := rfl
    rw [e, absT_app, absT_cons, Nat.add_mul, dvT, dvs_abs]
    have h1 := ih fun y hy => h y (List.mem_cons_of_mem _ hy)
    have h2 : (dHi x.1 i - dLo x.1 i).toNat * x.2.natAbs ≤ x.2.natAbs * E.toNat := by
      rw [Nat.mul_comm]
      exact Nat.mul_le_mul_left _ (dv_N (h x (by simp)))
    omega
theorem divL_len {E : Int} {i : Nat} {f : List (List Int × Int)} (h : ∀ x ∈ f, ∀ j, 0 ≤ nth x.1 j ∧ nth x.1 j ≤ E) : (divL i f).length ≤ f.length * E.toNat := by
  induction f with
  | nil => simp [divL]
  | cons x f ih =>
    have e : divL i (x :: f) = dvT i x ++ divL i f := rfl
    rw [e, List.length_append, List.length_cons, Nat.add_mul, Nat.one_mul, dvT, dvs_len]
    have h1 := ih fun y hy => h y (List.mem_cons_of_mem _ hy)
    have h2 := dv_N (i := i) (h x (by simp))
    omega
theorem divL_perm {i : Nat} {f g : List (List Int × Int)} (h : f.Perm g) : (divL i f).Perm (divL i g) := h.flatMap_right _
end Go.Proofs.Ytgbojgmmingfdaa
