/- The terms of the tableaux are those of the other way. No program is in sight here. -/
import Derived.Test.YtgbojgmmingfdaaGathK
import Derived.Test.YtgbojgmmingfdaaKeyO
import Derived.Test.YtgbojgmmingfdaaPolyR
namespace Go.Proofs.Ytgbojgmmingfdaa

/-- One more of a variable. -/
def bumpE (e : List Int) (x : Int) : List Int := e.set x.toNat (nth e x.toNat + 1)
def expE (e : List Int) (r : List Int) : List Int := r.foldl bumpE e
def zeroE : List Int := [0, 0, 0, 0, 0, 0, 0]
def wtE (t : List (List Int)) : List Int := t.foldl expE zeroE
def accT (acc : List (List Int × Int)) (ts : List (List (List Int))) : List (List Int × Int) := ts.foldl (fun a t => addP a (wtE t) 1) acc
theorem bumpE_len (e : List Int) (x : Int) : (bumpE e x).length = e.length := by simp [bumpE]
theorem lowN_set {e : List Int} {i : Nat} (hi : i < e.length) (y : Int) : ∀ n, lowN (e.set i (nth e i + y)) n = lowN e n + if i < n then y * 128 ^ i else 0
  | 0 => by simp [lowN]
  | n + 1 => by
    rw [lowN, lowN, lowN_set hi y n]
    by_cases h : n = i
    · subst h
      rw [nth_set_eq hi, if_neg (by omega), if_pos (by omega), Int.add_mul]; omega
    · rw [nth_set_ne (Ne.symm h)]
      by_cases h2 : i < n
      · rw [if_pos h2, if_pos (by omega)]; omega
      · rw [if_neg h2, if_neg (by omega)]; omega
theorem key_bump {e : List Int} {x : Int} (he : e.length = 7) (h0 : 0 ≤ x) (h7 : x < 7) : keyL (bumpE e x) = keyL e + 128 ^ x.toNat := by
  rw [keyL_low, keyL_low, bumpE, lowN_set (by omega), if_pos (by omega), Int.one_mul]
theorem key_row : ∀ (r e : List Int), e.length = 7 → (∀ x ∈ r, 0 ≤ x ∧ x < 7) → (expE e r).length = 7 ∧ keyL (expE e r) = keyL e + keyRow r
  | [], e, he, _ => ⟨he, by simp [expE, keyRow]⟩
  | x :: r, e, he, h => by
    have hx := h x (by simp)
    have ih := key_row r (bumpE e x) (by rw [bumpE_len, he]) fun y hy => h y (List.mem_cons_of_mem _ hy)
    refine ⟨ih.1, ?_⟩
    have e1 : expE e (x :: r) = expE (bumpE e x) r := rfl
    have e2 : keyRow (x :: r) = 128 ^ x.toNat + keyRow r := by simp [keyRow]
    rw [e1, ih.2, key_bump he hx.1 hx.2, e2]; omega
theorem key_tab : ∀ (t : List (List Int)) (e : List Int), e.length = 7 → (∀ r ∈ t, ∀ x ∈ r, 0 ≤ x ∧ x < 7) → (t.foldl expE e).length = 7 ∧ keyL (t.foldl expE e) = keyL e + keyT t
  | [], e, he, _ => ⟨he, by simp [keyT]⟩
  | r :: t, e, he, h => by
    have h1 := key_row r e he (h r (by simp))
    have ih := key_tab t (expE e r) h1.1 fun r' hr => h r' (List.mem_cons_of_mem _ hr)
    refine ⟨ih.1, ?_⟩
    rw [List.foldl_cons, ih.2, h1.2]
    simp only [keyT, List.map_cons, List.sum_cons]
    omega
theorem bump_in {e : List Int} {x : Int} {N : Int} (h : ∀ j, 0 ≤ nth e j ∧ nth e j ≤ N) : ∀ j, 0 ≤ nth (bumpE e x) j ∧ nth (bumpE e x) j ≤ N + 1 := fun j => by
  unfold bumpE
  have hj := h j
  have hx := h x.toNat
  by_cases h1 : x.toNat = j
  · subst h1
    by_cases h2 : x.toNat < e.length
    · rw [nth_set_eq h2]; omega
    · rw [nth_ge (by simp; omega)]; omega
  · rw [nth_set_ne h1]; omega
theorem row_in : ∀ (r : List Int) {e : List Int} {N : Int}, (∀ j, 0 ≤ nth e j ∧ nth e j ≤ N) → ∀ j, 0 ≤ nth (expE e r) j ∧ nth (expE e r) j ≤ N + r.length
  | [], e, N, h => by simpa [expE] using h
  | x :: r, e, N, h => by
    have ih := row_in r (bump_in (x := x) h)
    have e1 : expE e (x :: r) = expE (bumpE e x) r := rfl
    rw [e1, List.length_cons]
    intro j
    have := ih j
    omega
theorem tab_in : ∀ (t : List (List Int)) {e : List Int} {N : Int}, (∀ j, 0 ≤ nth e j ∧ nth e j ≤ N) → ∀ j, 0 ≤ nth (t.foldl expE e) j ∧ nth (t.foldl expE e) j ≤ N + (t.map List.length).sum
  | [], e, N, h => by simpa using h
  | r :: t, e, N, h => by
    have ih := tab_in t (row_in r h)
    intro j
    have := ih j
    rw [List.foldl_cons, List.map_cons, List.sum_cons]
    omega
theorem zeroE_at (j : Nat) : nth zeroE j = 0 := by
  by_cases h : j < 7
  · have : j = 0 ∨ j = 1 ∨ j = 2 ∨ j = 3 ∨ j = 4 ∨ j = 5 ∨ j = 6 := by omega
    rcases this with rfl | rfl | rfl | rfl | rfl | rfl | rfl <;> rfl
  · exact nth_ge (by simp [zeroE]; omega)
theorem tabR_mem {n : Int} : ∀ (ms p : List Int), ∀ t ∈ tabR n p ms, (∀ r ∈ t, ∀ x ∈ r, 0 ≤ x ∧ x < n) ∧ t.map List.length = ms.map Int.toNat
  | [], p, t, h => by
    rw [tabR, List.mem_singleton] at h
    subst h
    simp
  | m :: ms, p, t, h => by
    rw [tabR, List.mem_flatMap] at h
    obtain ⟨r, hr, h⟩ := h
    obtain ⟨t', ht, rfl⟩ := List.mem_map.1 h
    have h1 := rowR_mem _ _ (by simp) r hr
    have h2 := tabR_mem ms r t' ht
    refine ⟨fun r' hr' => ?_, ?_⟩
    · rcases List.mem_cons.1 hr' with rfl | hr'
      · exact h1.2
      · exact h2.1 r' hr'
    · rw [List.map_cons, List.map_cons, h2.2, h1.1]; simp
/-- What a tableau of at most 8 cells weighs. -/
theorem wt_in {n : Int} {ms : List Int} {t : List (List Int)} (hd : Desc ms) (h8 : ms.sum ≤ 8) (hn : n ≤ 7) (h : t ∈ tabs ms n) :
    (wtE t).length = 7 ∧ (∀ j, 0 ≤ nth (wtE t) j ∧ nth (wtE t) j ≤ 8) ∧ keyL (wtE t) = keyT t := by
  obtain ⟨h1, h2⟩ := tabR_mem _ _ t h
  have h3 := key_tab t zeroE rfl fun r hr x hx => by have := h1 r hr x hx; omega
  have h4 := tab_in t (e := zeroE) (N := 0) fun j => by rw [zeroE_at]; omega
  have h5 := sum_nat hd
  rw [h2] at h4
  refine ⟨h3.1, fun j => by have := h4 j; unfold wtE; omega, ?_⟩
  have e0 : keyL zeroE = 0 := by decide
  unfold wtE
  rw [h3.2, e0]; omega
/-! ### the gathered terms -/
def kc (x : List Int × Int) : Int × Int := (keyL x.1, x.2)
theorem coef_addR {s : List Int} {c : Int} (k : Int) : ∀ acc : List (List Int × Int), coefK ((addR acc s c).map kc) k = coefK (acc.map kc) k + if keyL s = k then c else 0
  | [] => by simp [addR, coefK, kc]
  | x :: r => by
    have ih := coef_addR (s := s) (c := c) k r
    rw [addR]
    split
    · rw [List.map_cons, List.map_cons, coefK_cons, coefK_cons, ih]; omega
    · split
      · rename_i h1 h2
        have e : keyL s = (kc x).1 := by rw [← h2]; rfl
        have e2 : (kc x).2 = x.2 := rfl
        split
        · rename_i h3
          rw [List.map_cons, coefK_cons, e, e2]
          split <;> omega
        · rw [List.map_cons, List.map_cons, coefK_cons, coefK_cons, e, e2]
          show (if keyL s = k then x.2 + c else 0) + _ = _
          rw [e]
          split <;> omega
      · rw [List.map_cons, coefK_cons]
        show (if keyL s = k then c else 0) + _ = _
        omega
structure AccOk (acc : List (List Int × Int)) (N : Int) : Prop where
  srt : Srt acc
  ok : ∀ x ∈ acc, x.1.length = 7 ∧ (∀ j, 0 ≤ nth x.1 j ∧ nth x.1 j ≤ 8) ∧ 1 ≤ x.2 ∧ x.2 ≤ N
theorem addR_mem1 {s : List Int} : ∀ {ps : List (List Int × Int)} {x : List Int × Int}, x ∈ addR ps s 1 → x ∈ ps ∨ x = (s, 1) ∨ ∃ y ∈ ps, y.1 = s ∧ x = (s, y.2 + 1)
  | [], x, h => by simp [addR] at h; exact .inr (.inl h)
  | y :: r, x, h => by
    rw [addR] at h
    split at h
    · rcases List.mem_cons.1 h with h | h
      · exact .inl (by rw [h]; simp)
      · rcases addR_mem1 h with h | h | ⟨z, h1, h2⟩
        · exact .inl (List.mem_cons_of_mem _ h)
        · exact .inr (.inl h)
        · exact .inr (.inr ⟨z, List.mem_cons_of_mem _ h1, h2⟩)
    · split at h
      · rename_i h3
        split at h
        · exact .inl (List.mem_cons_of_mem _ h)
        · rcases List.mem_cons.1 h with h | h
          · exact .inr (.inr ⟨y, by simp, h3, h⟩)
          · exact .inl (List.mem_cons_of_mem _ h)
      · rcases List.mem_cons.1 h with h | h
        · exact .inr (.inl h)
        · exact .inl h
theorem AccOk.nil_ : AccOk [] 0 := ⟨fun i j _ hj => by simp at hj, by simp⟩
theorem AccOk.add {acc : List (List Int × Int)} {N : Int} {s : List Int} (h : AccOk acc N) (hN : 0 ≤ N) (hs : s.length = 7) (hb : ∀ j, 0 ≤ nth s j ∧ nth s j ≤ 8) : AccOk (addP acc s 1) (N + 1) := by
  refine ⟨addP_srt h.srt, fun x hx => ?_⟩
  rw [addP_rec (by omega)] at hx
  rcases addR_mem1 hx with hx | rfl | ⟨y, hy, _, rfl⟩
  · have := h.ok x hx
    exact ⟨this.1, this.2.1, this.2.2.1, by omega⟩
  · exact ⟨hs, hb, Int.le_refl _, by simp only; omega⟩
  · have := (h.ok y hy).2.2
    exact ⟨hs, hb, by simp only; omega, by simp only; omega⟩
theorem AccOk.cf_le {acc : List (List Int × Int)} {N : Int} (h : AccOk acc N) (hN : 0 ≤ N) (e : List Int) : 0 ≤ cf acc e ∧ cf acc e ≤ N := by
  by_cases hc : cf acc e = 0
  · omega
  · have := (h.ok _ (cf_key hc)).2.2
    simp only at this
    omega
theorem AccOk.all {n : Int} {ms : List Int} (hd : Desc ms) (h8 : ms.sum ≤ 8) (hn : n ≤ 7) : ∀ (ts : List (List (List Int))) {acc : List (List Int × Int)} {N : Int}, (∀ t ∈ ts, t ∈ tabs ms n) → AccOk acc N → 0 ≤ N →
    AccOk (accT acc ts) (N + ts.length) ∧ ∀ k, coefK ((accT acc ts).map kc) k = coefK (acc.map kc) k + cntK (ts.map keyT) k
  | [], acc, N, _, h, _ => ⟨by simpa [accT] using h, fun k => by simp [accT, cntK, coefK]⟩
  | t :: ts, acc, N, hts, h, hN => by
    obtain ⟨w1, w2, w3⟩ := wt_in hd h8 hn (hts t (by simp))
    obtain ⟨i1, i2⟩ := AccOk.all hd h8 hn ts (fun t ht => hts t (List.mem_cons_of_mem _ ht)) (h.add hN w1 w2) (by omega)
    have e : accT acc (t :: ts) = accT (addP acc (wtE t) 1) ts := rfl
    rw [e]
    refine ⟨by rw [List.length_cons, show N + ((ts.length + 1 : Nat) : Int) = N + 1 + ts.length by omega]; exact i1, fun k => ?_⟩
    rw [i2 k, addP_rec (by omega), coef_addR, w3]
    unfold cntK
    rw [List.map_cons, List.map_cons, coefK_cons]
    omega
theorem keyL_inj {a b : List Int} (ha : a.length = 7) (hb : b.length = 7) (h1 : Ex128 a) (h2 : Ex128 b) (h : keyL a = keyL b) : a = b := by
  have k1 : ¬ byT a b < 0 := fun h3 => by have := (byT_key h1 h2).1 h3; omega
  have k2 : ¬ byT b a < 0 := fun h3 => by have := (byT_key h2 h1).1 h3; omega
  rcases byFrom_total (a := a) (b := b) 7 with h3 | h3 | h3
  · exact absurd h3 k1
  · exact ext_nth (by omega) fun j hj => byFrom_same 7 h3 j (by omega)
  · exact absurd h3 k2
/-- Terms of different exponents in order are one list of keys. -/
theorem sorted_keys {ps acc : List (List Int × Int)} (hp : ps.Perm acc) (hs : ps.Pairwise (fun x y => ¬ byT y.1 x.1 < 0)) (hd : Srt acc) (hb : ∀ x ∈ acc, x.1.length = 7 ∧ Ex128 x.1 ∧ x.2 ≠ 0) : SrtK (ps.map kc) ∧ ∀ k, coefK (ps.map kc) k = coefK (acc.map kc) k := by
  refine ⟨⟨?_, ?_⟩, fun k => coefK_perm (hp.map _) k⟩
  · rw [List.pairwise_map]
    have hn : (ps.map Prod.fst).Nodup := ((hp.map _).nodup_iff).2 (srt_nodup hd)
    rw [List.Nodup, List.pairwise_map] at hn
    refine (hs.and hn).imp_of_mem fun {x y} hx hy ⟨h1, h2⟩ => ?_
    obtain ⟨x1, x2, -⟩ := hb x (hp.mem_iff.1 hx)
    obtain ⟨y1, y2, -⟩ := hb y (hp.mem_iff.1 hy)
    have h3 : ¬ keyL x.1 < keyL y.1 := fun h => h1 ((byT_key y2 x2).2 h)
    have h4 : keyL x.1 ≠ keyL y.1 := fun h => h2 (keyL_inj x1 y1 x2 y2 h)
    show keyL y.1 < keyL x.1
    omega
  · intro x hx
    obtain ⟨y, hy, rfl⟩ := List.mem_map.1 hx
    exact (hb y (hp.mem_iff.1 hy)).2.2
theorem schur_law {n : Nat} {ms : List Int} {ps : List (List Int × Int)} (hd : Desc ms) (hpos : Pos ms) (h8 : ms.sum ≤ 8) (hn : n ≤ 7) (hp : ps.Perm (accT [] (tabs ms n))) (hs : ps.Pairwise (fun x y => ¬ byT y.1 x.1 < 0)) : ps.map kc = schurK n ms := by
  obtain ⟨h1, h2⟩ := AccOk.all hd h8 (n := (n : Int)) (by omega) (tabs ms n) (fun t h => h) AccOk.nil_ (Int.le_refl _)
  obtain ⟨s1, s2⟩ := sorted_keys hp hs h1.srt fun x hx => by
    have := h1.ok x hx
    exact ⟨this.1, fun j _ => by have := this.2.1 j; omega, by omega⟩
  refine srtK_uniq s1 (schurK_srt _ _) fun k => ?_
  rw [s2, h2, schurK_coef n ms hd hpos]
  unfold keysS
  rw [List.map_nil, coefK_nil]; omega
end Go.Proofs.Ytgbojgmmingfdaa
