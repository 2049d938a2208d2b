/- Quantum products: fillings of wide boxes are shapes; what the program and the reference gather. No program is in sight here. -/
import Derived.Test.YtbemglmnnehllaaInterP
import Derived.Test.YtbemglmnnehllaaPlain
namespace Go.Proofs.Ytbemglmnnehllaa

/-! ### fillings descend -/
structure Desc (l : List Int) (rows : Nat) (most : Int) : Prop where
  len : l.length = rows
  rng : ∀ j, j < rows → 0 ≤ nth l j ∧ nth l j ≤ most
  down : ∀ j, j + 1 < rows → nth l (j + 1) ≤ nth l j
structure Part_ (old shape : List Int) (rows : Nat) (most : Int) (r : Nat) : Prop where
  len : shape.length = rows
  lo : ∀ j, j < r → nth old j ≤ nth shape j ∧ nth shape j ≤ most ∧ (0 < j → nth shape j ≤ nth old (j - 1))
  hi : ∀ j, r ≤ j → nth shape j = nth old j
theorem layerR_desc {rows : Nat} {most : Int} {K : List Int → List Int → List (List Int)} {old : List Int} {under : Option (List Int)} (hK : ∀ s p, Desc s rows most → ∀ t ∈ K s p, Desc t rows most) (ho : Desc old rows most) :
    ∀ (d : Nat) (shape : List Int) (left : Int) (put : List Int), d ≤ rows → Part_ old shape rows most (rows - d) → ∀ t ∈ layerR rows most K old under d shape left put, Desc t rows most
  | 0, shape, left, put, _, hp => by
    intro t ht
    by_cases h : 0 < left
    · rw [layerR_end h] at ht; cases ht
    · rw [layerR_full h] at ht
      refine hK shape put ⟨hp.len, fun j hj => ?_, fun j hj => ?_⟩ t ht
      · have := hp.lo j (by omega)
        have := ho.rng j hj
        omega
      · have h1 := hp.lo j (by omega)
        have h2 := (hp.lo (j + 1) (by omega)).2.2 (by omega)
        rw [Nat.add_sub_cancel] at h2
        omega
  | d + 1, shape, left, put, hd, hp => by
    intro t ht
    rw [layerR_row, layerN, List.mem_flatMap] at ht
    obtain ⟨n, hn, ht⟩ := ht
    rw [List.mem_range] at hn
    obtain ⟨r, hr⟩ : ∃ r, r = rows - (d + 1) := ⟨_, rfl⟩
    rw [← hr] at hn ht hp
    have hm : (n : Int) ≤ mostAt most old under put left r := by omega
    have hm1 : (n : Int) ≤ most - nth old r ∧ (0 < r → (n : Int) ≤ nth old (r - 1) - nth old r) := by
      unfold mostAt at hm
      by_cases h0 : r = 0
      · subst h0
        refine ⟨?_, fun h => absurd h (by omega)⟩
        cases under with
        | none => simp only [if_true] at hm; omega
        | some u => simp only [if_true] at hm; omega
      · simp only [if_neg h0] at hm
        cases under with
        | none => simp only at hm; exact ⟨by omega, fun _ => by omega⟩
        | some u => simp only at hm; exact ⟨by omega, fun _ => by omega⟩
    have hsr := hp.hi r (Nat.le_refl _)
    have hlr : r < shape.length := by rw [hp.len]; omega
    have hor := ho.rng r (by omega)
    refine layerR_desc hK ho d _ _ _ (by omega) ⟨by simp [hp.len], fun j hj => ?_, fun j hj => ?_⟩ t ht
    · by_cases hjr : r = j
      · subst hjr
        rw [nth_set_eq hlr, hsr]
        exact ⟨by omega, by omega, fun h => by have := hm1.2 h; omega⟩
      · rw [nth_set_ne hjr]
        exact hp.lo j (by omega)
    · rw [nth_set_ne (by omega)]
      exact hp.hi j (by omega)
theorem layerC_desc {rows : Nat} {most : Int} : ∀ (cs shape : List Int) (under : Option (List Int)), Desc shape rows most → ∀ t ∈ layerC rows most cs shape under, Desc t rows most
  | [], shape, under, h, t, ht => by
    have : t = shape := by simpa [layerC] using ht
    rw [this]; exact h
  | c :: rest, shape, under, h, t, ht => by
    rw [layerC_cons] at ht
    exact layerR_desc (fun s p hs t ht => layerC_desc rest s _ hs t ht) h rows shape c _ (Nat.le_refl _) ⟨h.len, fun j hj => by omega, fun j _ => rfl⟩ t ht
theorem bareLen_last (l : List Int) : ∀ n, bareLen l n = 0 ∨ nth l (bareLen l n - 1) ≠ 0
  | 0 => .inl rfl
  | n + 1 => by
    unfold bareLen
    split
    · exact bareLen_last l n
    · rename_i h; exact .inr h
theorem Desc.below {l : List Int} {rows : Nat} {most : Int} (h : Desc l rows most) {i j : Nat} (hij : i ≤ j) (hj : j < rows) : nth l j ≤ nth l i := by
  induction j with
  | zero => obtain rfl : i = 0 := by omega
            exact Int.le_refl _
  | succ j ih =>
    by_cases h1 : i = j + 1
    · subst h1; exact Int.le_refl _
    · have := ih (by omega) (by omega)
      have := h.down j hj
      omega
theorem Desc.shape {l : List Int} {rows : Nat} {most : Int} (h : Desc l rows most) (hr : rows ≤ 16) (hm : most ≤ 16) : isShapeB (bare l) = true ∧ (bare l).length ≤ rows := by
  have hle := bareLen_le l l.length
  rw [h.len] at hle
  have hbl : (bare l).length = bareLen l l.length := by unfold bare; rw [List.length_take]; have := bareLen_le l l.length; omega
  have hlast := bareLen_last l l.length
  rw [h.len] at hbl hlast
  refine ⟨?_, by omega⟩
  have hnb : ∀ j, j < bareLen l rows → nth (bare l) j = nth l j := fun j hj => by unfold bare; rw [h.len]; exact nth_take hj
  rw [isShapeB_all rfl fun j hj => ?_]
  · simp; omega
  · rw [hbl] at hj
    rcases hlast with h0 | h0
    · omega
    have h1 := h.below (i := j) (j := bareLen l rows - 1) (by omega) (by omega)
    have h2 := h.rng (bareLen l rows - 1) (by omega)
    have h3 := h.rng j (by omega)
    refine shapeAt_iff.2 ⟨by rw [hnb j hj]; omega, fun hp => ?_⟩
    rw [hnb j hj, hnb (j - 1) (by omega)]
    exact h.below (by omega) (by omega)
theorem fill_shapes {a b : List Int} {K M : Nat} (hA : SD a K M) (hB : SD b K M) (hKM : K + M ≤ 7) : Wt (fillB a b K 14) 20000000 ∧ ∀ x ∈ fillB a b K 14, isShapeB x.1 = true ∧ x.1.length ≤ K := by
  have hbl := box_len (b := b) (s := padL a K) (most := 14) (u := none) hB hKM
  have hd : Desc (padL a K) K 14 := by
    refine ⟨padL_len hA.len, fun j _ => ?_, fun j _ => ?_⟩
    · rw [nth_padL]; have h1 := hA.lo j; have h2 := hA.top j; omega
    · rw [nth_padL, nth_padL]; exact hA.desc j
  refine ⟨?_, fun x hx => ?_⟩
  · have h4 := Wt.nil_.all (layerC K 14 b (padL a K) none) fun s hs => by
      have := layerC_rows b (padL a K) none K (padL_len hA.len) s hs
      omega
    exact h4.mono (by omega)
  · rcases addAll_mem grows_nil _ hx with ⟨y, hy, _⟩ | ⟨s, hs, e⟩
    · cases hy
    · rw [e]; exact (layerC_desc b _ none hd s hs).shape (by omega) (by omega)

/-! ### gathered -/
def keyW (x : List Int × Int) (K N : Nat) : List Int := (reduceW x.1 K N).1 :: (reduceW x.1 K N).2.1
def cntW (x : List Int × Int) (K N : Nat) : Int := (reduceW x.1 K N).2.2 * x.2
def difW (x : List Int × Int) (K N : Nat) : Bool := diffB (remsW x.1 K N K)
/-- What the program has gathered behind m fillings. -/
def qImp (L : List (List Int × Int)) (K N : Nat) : Nat → List (List Int × Int)
  | 0 => []
  | m + 1 => if difW (nthP L m) K N then insZ (qImp L K N m) (keyW (nthP L m) K N) (cntW (nthP L m) K N) else qImp L K N m
/-- What the reference has. -/
def qSpe (L : List (List Int × Int)) (K N : Nat) : Nat → List (List Int × Int)
  | 0 => []
  | m + 1 => addP (qSpe L K N m) (keyW (nthP L m) K N) (cntW (nthP L m) K N)
theorem qImp_yes {L : List (List Int × Int)} {K N m : Nat} (h : difW (nthP L m) K N = true) : qImp L K N (m + 1) = insZ (qImp L K N m) (keyW (nthP L m) K N) (cntW (nthP L m) K N) := by rw [qImp, if_pos h]
theorem qImp_no {L : List (List Int × Int)} {K N m : Nat} (h : difW (nthP L m) K N = false) : qImp L K N (m + 1) = qImp L K N m := by rw [qImp, if_neg (by rw [h]; simp)]
theorem reduce_sign {x : List Int × Int} {K N : Nat} (h : difW x K N = true) : (reduceW x.1 K N).2.2 = 1 ∨ (reduceW x.1 K N).2.2 = -1 := by
  unfold reduceW difW at *
  rw [if_pos h]
  exact signW_sign _ _ _
theorem reduce_none {x : List Int × Int} {K N : Nat} (h : difW x K N = false) : (reduceW x.1 K N).2.2 = 0 := by
  unfold reduceW difW at *
  rw [h]; rfl
theorem cnt_range {x : List Int × Int} {K N : Nat} (h : 1 ≤ x.2) : -x.2 ≤ cntW x K N ∧ cntW x K N ≤ x.2 := by
  unfold cntW
  rcases hd : difW x K N with _ | _
  · rw [reduce_none hd, Int.zero_mul]; omega
  · rcases reduce_sign hd with h1 | h1 <;> rw [h1] <;> omega
theorem cnt_no {x : List Int × Int} {K N : Nat} (h : difW x K N = false) : cntW x K N = 0 := by unfold cntW; rw [reduce_none h, Int.zero_mul]
theorem cnt_some {x : List Int × Int} {K N : Nat} (hx : 1 ≤ x.2) (h : difW x K N = true) : cntW x K N ≠ 0 := by
  unfold cntW
  rcases reduce_sign h with h1 | h1 <;> rw [h1] <;> omega
theorem lssTo_len (d : List Int) (k i : Nat) : (lssTo d k i).length = i := gen_len _ _
theorem reduce_range {x : List Int × Int} {K N : Nat} (h : isShapeB x.1 = true) (hK : K ≤ 7) (hN : 1 ≤ N) : (0 ≤ (reduceW x.1 K N).1 ∧ (reduceW x.1 K N).1 ≤ 10000000) ∧ (reduceW x.1 K N).2.1.length ≤ 16 := by
  unfold reduceW
  split
  · have h1 := powW_range h hK hN K (Nat.le_refl _)
    have h2 : (bare (rowsW x.1 K N)).length ≤ 16 := by
      unfold bare
      have h3 : (rowsW x.1 K N).length = K := by unfold rowsW; exact lssTo_len _ _ _
      rw [List.length_take]
      omega
    exact ⟨by simp only; omega, h2⟩
  · simp
structure QIn (ps : List (List Int × Int)) (T : Int) : Prop where
  srt : Srt ps
  key : Keyed ps
  cnt : ∀ x ∈ ps, -T ≤ x.2 ∧ x.2 ≤ T
  short : ∀ x ∈ ps, x.1.length ≤ 17
  pow : ∀ x ∈ ps, 0 ≤ x.1.headD 0 ∧ x.1.headD 0 ≤ 10000000
theorem insZ_mem {s : List Int} {n : Int} : ∀ {ps : List (List Int × Int)} {y : List Int × Int}, y ∈ insZ ps s n → y ∈ ps ∨ (y.1 = s ∧ (y.2 = n ∨ ∃ x ∈ ps, y.2 = x.2 + n))
  | [], y, h => by
    simp [insZ] at h
    rw [h]; exact .inr ⟨rfl, .inl rfl⟩
  | x :: r, y, h => by
    rw [insZ] at h
    split at h
    · rcases List.mem_cons.1 h with rfl | h
      · exact .inl List.mem_cons_self
      · rcases insZ_mem h with h | ⟨h1, h2 | ⟨z, hz, h2⟩⟩
        · exact .inl (List.mem_cons_of_mem _ h)
        · exact .inr ⟨h1, .inl h2⟩
        · exact .inr ⟨h1, .inr ⟨z, List.mem_cons_of_mem _ hz, h2⟩⟩
    · split at h
      · rcases List.mem_cons.1 h with rfl | h
        · exact .inr ⟨rfl, .inr ⟨x, List.mem_cons_self, rfl⟩⟩
        · exact .inl (List.mem_cons_of_mem _ h)
      · rcases List.mem_cons.1 h with rfl | h
        · exact .inr ⟨rfl, .inl rfl⟩
        · exact .inl h
theorem QIn.ins {ps : List (List Int × Int)} {T n m : Int} {p : Int} {s : List Int} (h : QIn ps T) (hT : 0 ≤ T) (hs : s.length ≤ 16) (hp : 0 ≤ p ∧ p ≤ 10000000) (hn : -m ≤ n ∧ n ≤ m) (hm : 0 ≤ m) : QIn (insZ ps (p :: s) n) (T + m) := by
  refine ⟨insZ_srt h.srt, insZ_keyed (ps := ps) (by simp) h.key, fun x hx => ?_, fun x hx => ?_, fun x hx => ?_⟩
  · rcases insZ_mem hx with h1 | ⟨_, h1 | ⟨z, hz, h1⟩⟩
    · have := h.cnt x h1; omega
    · omega
    · have := h.cnt z hz; omega
  · rcases insZ_mem hx with h1 | ⟨h1, _⟩
    · exact h.short x h1
    · rw [h1]; simp; omega
  · rcases insZ_mem hx with h1 | ⟨h1, _⟩
    · exact h.pow x h1
    · rw [h1]; exact hp
theorem QIn.mono {ps : List (List Int × Int)} {T T' : Int} (h : QIn ps T) (hT : T ≤ T') : QIn ps T' := ⟨h.srt, h.key, fun x hx => by have := h.cnt x hx; omega, h.short, h.pow⟩
theorem total_take {L : List (List Int × Int)} {m : Nat} (h : m < L.length) : total (L.take (m + 1)) = total (L.take m) + (nthP L m).2 := by
  rw [List.take_succ_eq_append_getElem h, total_append, nthP_lt h]
  simp [total]
theorem total_part {L : List (List Int × Int)} (h : ∀ x ∈ L, 1 ≤ x.2) (m : Nat) : 0 ≤ total (L.take m) ∧ total (L.take m) ≤ total L := by
  have h1 := (total_mem (ps := L.take m) fun x hx => h x (List.mem_of_mem_take hx)).1
  have h2 := (total_mem (ps := L.drop m) fun x hx => h x (List.mem_of_mem_drop hx)).1
  have h3 := total_split (ps := L) m
  omega
theorem qImp_in {L : List (List Int × Int)} {K N : Nat} (hK : K ≤ 7) (hN : 1 ≤ N) (hp : ∀ x ∈ L, 1 ≤ x.2) (hs : ∀ x ∈ L, isShapeB x.1 = true) : ∀ m, m ≤ L.length → QIn (qImp L K N m) (total (L.take m)) ∧ (qImp L K N m).length ≤ m
  | 0, _ => ⟨⟨fun i j _ h => by simp [qImp] at h, fun x h => (by cases h), fun x h => (by cases h), fun x h => (by cases h), fun x h => (by cases h)⟩, Nat.le_refl _⟩
  | m + 1, hm => by
    obtain ⟨h1, h2⟩ := qImp_in hK hN hp hs m (by omega)
    have hmem := nthP_mem (ps := L) (k := m) (by omega)
    have hc := hp _ hmem
    have ht := (total_part hp m).1
    rw [total_take (by omega)]
    rcases hd : difW (nthP L m) K N with _ | _
    · rw [qImp_no hd]
      exact ⟨h1.mono (by omega), by omega⟩
    · rw [qImp_yes hd]
      have hr := reduce_range (x := nthP L m) (K := K) (N := N) (hs _ hmem) hK hN
      refine ⟨h1.ins ht hr.2 hr.1 (cnt_range hc) (by omega), ?_⟩
      have := insZ_len (s := keyW (nthP L m) K N) (n := cntW (nthP L m) K N) (qImp L K N m)
      omega
theorem qSpe_nz {L : List (List Int × Int)} {K N : Nat} (hK : K ≤ 7) (hN : 1 ≤ N) (hp : ∀ x ∈ L, 1 ≤ x.2) (hs : ∀ x ∈ L, isShapeB x.1 = true) : ∀ m, m ≤ L.length → qSpe L K N m = nz (qImp L K N m)
  | 0, _ => rfl
  | m + 1, hm => by
    have ih := qSpe_nz hK hN hp hs m (by omega)
    have h1 := (qImp_in hK hN hp hs m (by omega)).1
    have hc := hp _ (nthP_mem (ps := L) (k := m) (by omega))
    rw [qSpe, ih]
    rcases hd : difW (nthP L m) K N with _ | _
    · rw [qImp_no hd, cnt_no hd, addP_zero]
    · rw [qImp_yes hd, nz_insZ (cnt_some hc hd) h1.srt]
theorem nz_len (ps : List (List Int × Int)) : (nz ps).length ≤ ps.length := List.length_filter_le _ _
theorem QIn.sub {ps : List (List Int × Int)} {T : Int} (h : QIn ps T) : Keyed (nz ps) ∧ (∀ x ∈ nz ps, -T ≤ x.2 ∧ x.2 ≤ T) ∧ (∀ x ∈ nz ps, x.1.length ≤ 17) := ⟨fun x hx => h.key x (nz_mem hx), fun x hx => h.cnt x (nz_mem hx), fun x hx => h.short x (nz_mem hx)⟩
/-- The arguments are in order. -/
def qOk (a b : List Int) (k n : Int) : Bool := inBoxB a k n && (inBoxB b k n && !decide (k = 0))
def qpB (a b : List Int) (k n : Int) : List (List Int × Int) := if qOk a b k n then qSpe (fillB a b k.toNat 14) k.toNat n.toNat (fillB a b k.toNat 14).length else []
theorem qpB_no {a b : List Int} {k n : Int} (h : qOk a b k n = false) : qpB a b k n = [] := by simp [qpB, h]
theorem qpB_yes {a b : List Int} {K N : Nat} (h : qOk a b K N = true) : qpB a b K N = qSpe (fillB a b K 14) K N (fillB a b K 14).length := by simp [qpB, h]
end Go.Proofs.Ytbemglmnnehllaa
