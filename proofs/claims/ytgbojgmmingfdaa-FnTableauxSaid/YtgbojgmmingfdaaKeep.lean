/- The terms of the tableaux are those of the other way. No program is in sight here. -/
import Derived.Test.YtgbojgmmingfdaaSchurP
import Derived.Test.YtgbojgmmingfdaaTerms
import Derived.Test.YtgbojgmmingfdaaPoly
import Derived.Test.YtgbojgmmingfdaaWords
import Derived.Test.YtgbojgmmingfdaaSArg
namespace Go.Proofs.Ytgbojgmmingfdaa

/-- One more of a variable. -/
def bumpE (e : List Int) (x : Int) : List Int := e.set x.toNat (nth e x.toNat + 1)
def expE (e : List Int) (r : List Int) : List Int := r.foldl bumpE e
def zeroE : List Int := [0, 0, 0, 0, 0, 0, 0]
def wtE (t : List (List Int)) : List Int := t.foldl expE zeroE
def accT (acc : List (List Int × Int)) (ts : List (List (List Int))) : List (List Int × Int) := ts.foldl (fun a t => addP a (wtE t) 1) acc
theorem bumpE_len (e : List Int) (x : Int) : (bumpE e x).length = e.length := by simp [bumpE]
theorem lowN_set {e : List Int} {i : Nat} (hi : i < e.length) (y : Int) : ∀ n, lowN (e.set i (nth e i + y)) n = lowN e n + if i < n then y * 128 ^ i else 0
  | 0 => by simp [lowN]
  | n + 1 => by
    rw [lowN, lowN, lowN_set hi y n]
    by_cases h : n = i
    · subst h
      rw [nth_set_eq hi, if_neg (by omega), if_pos (by omega), Int.add_mul]; omega
    · rw [nth_set_ne (Ne.symm h)]
      by_cases h2 : i < n
      · rw [if_pos h2, if_pos (by omega)]; omega
      · rw [if_neg h2, if_neg (by omega)]; omega
theorem key_bump {e : List Int} {x : Int} (he : e.length = 7) (h0 : 0 ≤ x) (h7 : x < 7) : keyL (bumpE e x) = keyL e + 128 ^ x.toNat := by
  rw [keyL_low, keyL_low, bumpE, lowN_set (by omega), if_pos (by omega), Int.one_mul]
theorem key_row : ∀ (r e : List Int), e.length = 7 → (∀ x ∈ r, 0 ≤ x ∧ x < 7) → (expE e r).length = 7 ∧ keyL (expE e r) = keyL e + keyRow r
  | [], e, he, _ => ⟨he, by simp [expE, keyRow]⟩
  | x :: r, e, he, h => by
    have hx := h x (by simp)
    have ih := key_row r (bumpE e x) (by rw [bumpE_len, he]) fun y hy => h y (List.mem_cons_of_mem _ hy)
    refine ⟨ih.1, ?_⟩
    have e1 : expE e (x :: r) = expE (bumpE e x) r := rfl
    have e2 : keyRow (x :: r) = 128 ^ x.toNat + keyRow r := by simp [keyRow]
    rw [e1, ih.2, key_bump he hx.1 hx.2, e2]; omega
theorem key_tab : ∀ (t : List (List Int)) (e : List Int), e.length = 7 → (∀ r ∈ t, ∀ x ∈ r, 0 ≤ x ∧ x < 7) → (t.foldl expE e).length = 7 ∧ keyL (t.foldl expE e) = keyL e + keyT t
  | [], e, he, _ => ⟨he, by simp [keyT]⟩
  | r :: t, e, he, h => by
    have h1 := key_row r e he (h r (by simp))
    have ih := key_tab t (expE e r) h1.1 fun r' hr => h r' (List.mem_cons_of_mem _ hr)
    refine ⟨ih.1, ?_⟩
    rw [List.foldl_cons, ih.2, h1.2]
    simp only [keyT, List.map_cons, List.sum_cons]
    omega
theorem bump_in {e : List Int} {x : Int} {N : Int} (h : ∀ j, 0 ≤ nth e j ∧ nth e j ≤ N) : ∀ j, 0 ≤ nth (bumpE e x) j ∧ nth (bumpE e x) j ≤ N + 1 := fun j => by
  unfold bumpE
  have hj := h j
  have hx := h x.toNat
  by_cases h1 : x.toNat = j
  · subst h1
    by_cases h2 : x.toNat < e.length
    · rw [nth_set_eq h2]; omega
    · rw [nth_ge (by simp; omega)]; omega
  · rw [nth_set_ne h1]; omega
theorem row_in : ∀ (r : List Int) {e : List Int} {N : Int}, (∀ j, 0 ≤ nth e j ∧ nth e j ≤ N) → ∀ j, 0 ≤ nth (expE e r) j ∧ nth (expE e r) j ≤ N + r.length
  | [], e, N, h => by simpa [expE] using h
  | x :: r, e, N, h => by
    have ih := row_in r (bump_in (x := x) h)
    have e1 : expE e (x :: r) = expE (bumpE e x) r := rfl
    rw [e1, List.length_cons]
    intro j
    have := ih j
    omega
theorem tab_in : ∀ (t : List (List Int)) {e : List Int} {N : Int}, (∀ j, 0 ≤ nth e j ∧ nth e j ≤ N) → ∀ j, 0 ≤ nth (t.foldl expE e) j ∧ nth (t.foldl expE e) j ≤ N + (t.map List.length).sum
  | [], e, N, h => by simpa using h
  | r :: t, e, N, h => by
    have ih := tab_in t (row_in r h)
    intro j
    have := ih j
    rw [List.foldl_cons, List.map_cons, List.sum_cons]
    omega
theorem zeroE_at (j : Nat) : nth zeroE j = 0 := by
  by_cases h : j < 7
  · have : j = 0 ∨ j = 1 ∨ j = 2 ∨ j = 3 ∨ j = 4 ∨ j = 5 ∨ j = 6 := by omega
    rcases this with rfl | rfl | rfl | rfl | rfl | rfl | rfl <;> rfl
  · exact nth_ge (by simp [zeroE]; omega)
theorem tabR_mem {n : Int} : ∀ (ms p : List Int), ∀ t ∈ tabR n p ms, (∀ r ∈ t, ∀ x ∈ r, 0 ≤ x ∧ x < n) ∧ t.map List.length = ms.map Int.toNat
  | [], p, t, h => by
    rw [tabR, List.mem_singleton] at h
    subst h
    simp
  | m :: ms, p, t, h => by
    rw [tabR, List.mem_flatMap] at h
    obtain ⟨r, hr, h⟩ := h
    obtain ⟨t', ht, rfl⟩ := List.mem_map.1 h
    have h1 := rowR_mem _ _ (by simp) r hr
    have h2 := tabR_mem ms r t' ht
    refine ⟨fun r' hr' => ?_, ?_⟩
    · rcases List.mem_cons.1 hr' with rfl | hr'
      · exact h1.2
      · exact h2.1 r' hr'
    · rw [List.map_cons, List.map_cons, h2.2, h1.1]; simp
/-- What a tableau of at most 8 cells weighs. -/
theorem wt_in {n : Int} {ms : List Int} {t : List (List Int)} (hd : Desc ms) (h8 : ms.sum ≤ 8) (hn : n ≤ 7) (h : t ∈ tabs ms n) :
    (wtE t).length = 7 ∧ (∀ j, 0 ≤ nth (wtE t) j ∧ nth (wtE t) j ≤ 8) ∧ keyL (wtE t) = keyT t := by
  obtain ⟨h1, h2⟩ := tabR_mem _ _ t h
  have h3 := key_tab t zeroE rfl fun r hr x hx => by have := h1 r hr x hx; omega
  have h4 := tab_in t (e := zeroE) (N := 0) fun j => by rw [zeroE_at]; omega
  have h5 := sum_nat hd
  rw [h2] at h4
  refine ⟨h3.1, fun j => by have := h4 j; unfold wtE; omega, ?_⟩
  have e0 : keyL zeroE = 0 := by decide
  unfold wtE
  rw [h3.2, e0]; omega
/-! ### the gathered terms -/
def kc (x : List Int × Int) : Int × Int := (keyL x.1, x.2)
theorem coef_addR {s : List Int} {c : Int} (k : Int) : ∀ acc : List (List Int × Int), coefK ((addR acc s c).map kc) k = coefK (acc.map kc) k + if keyL s = k then c else 0
  | [] => by simp [addR, coefK, kc]
  | x :: r => by
    have ih := coef_addR (s := s) (c := c) k r
    rw [addR]
    split
    · rw [List.map_cons, List.map_cons, coefK_cons, coefK_cons, ih]; omega
    · split
      · rename_i h1 h2
        have e : keyL s = (kc x).1 := by rw [← h2]; rfl
        have e2 : (kc x).2 = x.2 := rfl
        split
        · rename_i h3
          rw [List.map_cons, coefK_cons, e, e2]
          split <;> omega
        · rw [List.map_cons, List.map_cons, coefK_cons, coefK_cons, e, e2]
          show (if keyL s = k then x.2 + c else 0) + _ = _
          rw [e]
          split <;> omega
      · rw [List.map_cons, coefK_cons]
        show (if keyL s = k then c else 0) + _ = _
        omega
structure AccOk (acc : List (List Int × Int)) (N : Int) : Prop where
  srt : Srt acc
  ok : ∀ x ∈ acc, x.1.length = 7 ∧ (∀ j, 0 ≤ nth x.1 j ∧ nth x.1 j ≤ 8) ∧ 1 ≤ x.2 ∧ x.2 ≤ N
theorem addR_mem1 {s : List Int} : ∀ {ps : List (List Int × Int)} {x : List Int × Int}, x ∈ addR ps s 1 → x ∈ ps ∨ x = (s, 1) ∨ ∃ y ∈ ps, y.1 = s ∧ x = (s, y.2 + 1)
  | [], x, h => by simp [addR] at h; exact .inr (.inl h)
  | y :: r, x, h => by
    rw [addR] at h
    split at h
    · rcases List.mem_cons.1 h with h | h
      · exact .inl (by rw [h]; simp)
      · rcases addR_mem1 h with h | h | ⟨z, h1, h2⟩
        · exact .inl (List.mem_cons_of_mem _ h)
        · exact .inr (.inl h)
        · exact .inr (.inr ⟨z, List.mem_cons_of_mem _ h1, h2⟩)
    · split at h
      · rename_i h3
        split at h
        · exact .inl (List.mem_cons_of_mem _ h)
        · rcases List.mem_cons.1 h with h | h
          · exact .inr (.inr ⟨y, by simp, h3, h⟩)
          · exact .inl (List.mem_cons_of_mem _ h)
      · rcases List.mem_cons.1 h with h | h
        · exact .inr (.inl h)
        · exact .inl h
theorem AccOk.nil_ : AccOk [] 0 := ⟨fun i j _ hj => by simp at hj, by simp⟩
theorem AccOk.add {acc : List (List Int × Int)} {N : Int} {s : List Int} (h : AccOk acc N) (hN : 0 ≤ N) (hs : s.length = 7) (hb : ∀ j, 0 ≤ nth s j ∧ nth s j ≤ 8) : AccOk (addP acc s 1) (N + 1) := by
  refine ⟨addP_srt h.srt, fun x hx => ?_⟩
  rw [addP_rec (by omega)] at hx
  rcases addR_mem1 hx with hx | rfl | ⟨y, hy, _, rfl⟩
  · have := h.ok x hx
    exact ⟨this.1, this.2.1, this.2.2.1, by omega⟩
  · exact ⟨hs, hb, Int.le_refl _, by simp only; omega⟩
  · have := (h.ok y hy).2.2
    exact ⟨hs, hb, by simp only; omega, by simp only; omega⟩
theorem AccOk.cf_le {acc : List (List Int × Int)} {N : Int} (h : AccOk acc N) (hN : 0 ≤ N) (e : List Int) : 0 ≤ cf acc e ∧ cf acc e ≤ N := by
  by_cases hc : cf acc e = 0
  · omega
  · have := (h.ok _ (cf_key hc)).2.2
    simp only at this
    omega
theorem AccOk.all {n : Int} {ms : List Int} (hd : Desc ms) (h8 : ms.sum ≤ 8) (hn : n ≤ 7) : ∀ (ts : List (List (List Int))) {acc : List (List Int × Int)} {N : Int}, (∀ t ∈ ts, t ∈ tabs ms n) → AccOk acc N → 0 ≤ N →
    AccOk (accT acc ts) (N + ts.length) ∧ ∀ k, coefK ((accT acc ts).map kc) k = coefK (acc.map kc) k + cntK (ts.map keyT) k
  | [], acc, N, _, h, _ => ⟨by simpa [accT] using h, fun k => by simp [accT, cntK, coefK]⟩
  | t :: ts, acc, N, hts, h, hN => by
    obtain ⟨w1, w2, w3⟩ := wt_in hd h8 hn (hts t (by simp))
    obtain ⟨i1, i2⟩ := AccOk.all hd h8 hn ts (fun t ht => hts t (List.mem_cons_of_mem _ ht)) (h.add hN w1 w2) (by omega)
    have e : accT acc (t :: ts) = accT (addP acc (wtE t) 1) ts := rfl
    rw [e]
    refine ⟨by rw [List.length_cons, show N + ((ts.length + 1 : Nat) : Int) = N + 1 + ts.length by omega]; exact i1, fun k => ?_⟩
    rw [i2 k, addP_rec (by omega), coef_addR, w3]
    unfold cntK
    rw [List.map_cons, List.map_cons, coefK_cons]
    omega
theorem keyL_inj {a b : List Int} (ha : a.length = 7) (hb : b.length = 7) (h1 : Ex128 a) (h2 : Ex128 b) (h : keyL a = keyL b) : a = b := by
  have k1 : ¬ byT a b < 0 := fun h3 => by have := (byT_key h1 h2).1 h3; omega
  have k2 : ¬ byT b a < 0 := fun h3 => by have := (byT_key h2 h1).1 h3; omega
  rcases byFrom_total (a := a) (b := b) 7 with h3 | h3 | h3
  · exact absurd h3 k1
  · exact ext_nth (by omega) fun j hj => byFrom_same 7 h3 j (by omega)
  · exact absurd h3 k2
/-- Terms of different exponents in order are one list of keys. -/
theorem sorted_keys {ps acc : List (List Int × Int)} (hp : ps.Perm acc) (hs : ps.Pairwise (fun x y => ¬ byT y.1 x.1 < 0)) (hd : Srt acc) (hb : ∀ x ∈ acc, x.1.length = 7 ∧ Ex128 x.1 ∧ x.2 ≠ 0) : SrtK (ps.map kc) ∧ ∀ k, coefK (ps.map kc) k = coefK (acc.map kc) k := by
  refine ⟨⟨?_, ?_⟩, fun k => coefK_perm (hp.map _) k⟩
  · rw [List.pairwise_map]
    have hn : (ps.map Prod.fst).Nodup := ((hp.map _).nodup_iff).2 (srt_nodup hd)
    rw [List.Nodup, List.pairwise_map] at hn
    refine (hs.and hn).imp_of_mem fun {x y} hx hy ⟨h1, h2⟩ => ?_
    obtain ⟨x1, x2, -⟩ := hb x (hp.mem_iff.1 hx)
    obtain ⟨y1, y2, -⟩ := hb y (hp.mem_iff.1 hy)
    have h3 : ¬ keyL x.1 < keyL y.1 := fun h => h1 ((byT_key y2 x2).2 h)
    have h4 : keyL x.1 ≠ keyL y.1 := fun h => h2 (keyL_inj x1 y1 x2 y2 h)
    show keyL y.1 < keyL x.1
    omega
  · intro x hx
    obtain ⟨y, hy, rfl⟩ := List.mem_map.1 hx
    exact (hb y (hp.mem_iff.1 hy)).2.2
theorem schur_law {n : Nat} {ms : List Int} {ps : List (List Int × Int)} (hd : Desc ms) (hpos : Pos ms) (h8 : ms.sum ≤ 8) (hn : n ≤ 7) (hp : ps.Perm (accT [] (tabs ms n))) (hs : ps.Pairwise (fun x y => ¬ byT y.1 x.1 < 0)) : ps.map kc = schurK n ms := by
  obtain ⟨h1, h2⟩ := AccOk.all hd h8 (n := (n : Int)) (by omega) (tabs ms n) (fun t h => h) AccOk.nil_ (Int.le_refl _)
  obtain ⟨s1, s2⟩ := sorted_keys hp hs h1.srt fun x hx => by
    have := h1.ok x hx
    exact ⟨this.1, fun j _ => by have := this.2.1 j; omega, by omega⟩
  refine srtK_uniq s1 (schurK_srt _ _) fun k => ?_
  rw [s2, h2, schurK_coef n ms hd hpos]
  unfold keysS
  rw [List.map_nil, coefK_nil]; omega
end Go.Proofs.Ytgbojgmmingfdaa

/- What turns where a closure gathers: nothing but some blocks. -/
namespace Go.Proofs.Ytgbojgmmingfdaa
open Go.RowKit

/-- Nothing but the blocks of O has turned. -/
structure Kept (O : Nat → Prop) (w w' : World) : Prop where
  os : w'.os = w.os
  tape : w'.tape = w.tape
  output : w'.output = w.output
  size : w.heap.size ≤ w'.heap.size
  block : ∀ k, k < w.heap.size → ¬ O k → w'.heap[k]? = w.heap[k]?
section
variable {O O1 : Nat → Prop} {w w1 w2 : World}
theorem Kept.refl (O : Nat → Prop) (w : World) : Kept O w w := ⟨rfl, rfl, rfl, Nat.le_refl _, fun _ _ _ => rfl⟩
theorem Kept.of_below (h : Below w.heap.size w w1) : Kept O w w1 := ⟨h.os, h.tape, h.output, h.size, fun k hk _ => h.block k hk⟩
theorem Kept.trans (h : Kept O w w1) (hO : ∀ k, O1 k → O k ∨ w.heap.size ≤ k) (h2 : Kept O1 w1 w2) : Kept O w w2 :=
  ⟨h2.os.trans h.os, h2.tape.trans h.tape, h2.output.trans h.output, Nat.le_trans h.size h2.size, fun k hk hn =>
    (h2.block k (Nat.lt_of_lt_of_le hk h.size) fun h1 => (hO k h1).elim hn fun h3 => by omega).trans (h.block k hk hn)⟩
theorem Kept.mono (h : Kept O w w1) (hO : ∀ k, O k → O1 k) : Kept O1 w w1 := ⟨h.os, h.tape, h.output, h.size, fun k hk hn => h.block k hk fun h1 => hn (hO k h1)⟩
theorem Kept.store {g : Nat} (h : Kept O w w1) (hg : O g ∨ w.heap.size ≤ g) (j : Nat) (u : Value) : Kept O w (w1.setCell ⟨g, j, none⟩ u) :=
  ⟨h.os, h.tape, h.output, by simpa [World.setCell] using h.size, fun k hk hn => (Below.heap_setCell _ _ _ _ (by
    simp only
    intro e
    subst e
    rcases hg with h1 | h1
    · exact hn h1
    · omega)).trans (h.block k hk hn)⟩
theorem Kept.drewN (h : Kept O w w1) (n : Nat) : Kept O w (w1.drewN n) := ⟨h.os, h.tape, h.output, h.size, h.block⟩
theorem Kept.low {B : Nat} (h : Kept O w w1) (hO : ∀ k, O k → B ≤ k) (hB : B ≤ w.heap.size) : Below B w w1 :=
  ⟨h.os, h.tape, h.output, h.size, fun k hk => h.block k (by omega) fun h1 => by have := hO k h1; omega⟩
end
theorem cell_same {w w' : World} {a : Addr} (e : w'.heap[a.block]? = w.heap[a.block]?) : w'.cell? a = w.cell? a := by simp only [World.cell?, e]
theorem OI.sameB {w w' : World} {base g n c : Nat} {l : List Int} (h : OI w base (.slice (some ⟨g, 0, none⟩) n c) l) (e : w'.heap[g]? = w.heap[g]?) (hs : w.heap.size ≤ w'.heap.size) : OI w' base (.slice (some ⟨g, 0, none⟩) n c) l := by
  refine ⟨h.1, ?_⟩
  rcases h.2 with ⟨h1, h2⟩ | ⟨g', cap, cur, he, hb, hg, hnc, hcm, hsz, ht⟩
  · cases h1
  · obtain ⟨e1, e2, e3⟩ := slice_inj he
    injection e1 with e1
    injection e1 with e1
    subst e1
    exact .inr ⟨g, cap, cur, he, hb, e.trans hg, hnc, hcm, hsz, ht⟩
theorem OI.lt1 {w : World} {base g n c : Nat} {l : List Int} (h : OI w base (.slice (some ⟨g, 0, none⟩) n c) l) : base ≤ g ∧ g < w.heap.size := h.lt g rfl
theorem BK.same {w w' : World} {g : Nat} {T : TypeId} {cs : List Value} (h : BK w g T cs) (e : w'.heap[g]? = w.heap[g]?) : BK w' g T cs := e.trans h

end Go.Proofs.Ytgbojgmmingfdaa

/- slices.Clone of a slice of rows; append of several elements. -/
namespace Go.Proofs.Ytgbojgmmingfdaa
open Go.RowKit

/-- append of m elements of 'size' cells, at a row of the call's own. -/
theorem run_appN {P : Program} {w : World} {base b : Nat} {t e : TypeId} {size bytes : Nat} {z : Value} {v : Value} {n m : Nat} {fs fs2 : List (Int ⊕ List Int)} {cells news : List Value} (ty : TypeId)
    (ht : P.underlying t = some (.slice e)) (hinfo : (P.info? e).map (fun i => (i.zero, i.size, i.bytes)) = some (some z, size, bytes)) (hzs : z.cells.size = size) (hsz : 0 < size) (hbt : bytes ≤ 100) (he : e ≠ 3)
    (hown : OF w base b e size v n fs cells) (ad : Addr) (c : Nat) (hl : news.length = m * size) (hnews : ∀ j u, news[j]? = some u → w.cell? (ad.add j) = some u) (hfr : FRs w b fs2 news) (hd : Dist news)
    (hap : ∀ u ∈ cells, ∀ u' ∈ news, u.ownBlock = none ∨ u.ownBlock ≠ u'.ownBlock) (hlen : n + m ≤ 1000000000000) (hbase : base ≤ w.heap.size) :
    ∃ v' w', (Builtin.append_ #[t, t] ty #[v, .slice (some ad) m c]).run P w = .ok v' w' ∧ OF w' base b e size v' (n + m) (fs ++ fs2) (cells ++ news) ∧ w.grownBy w' v.ownBlock ∧ (v'.ownBlock = v.ownBlock ∨ v'.ownBlock = some w.heap.size) := by
  obtain ⟨i0, hi, hz, hs1, hb⟩ := info_parts hinfo
  obtain ⟨v', w', hr, h2, h3, _, h5⟩ := run_append_own_at (P := P) w base t ty e i0 z size bytes ht hi hz hs1 hb hzs hsz v n cells hown.1 ad m c news hl hnews hfr.one (by simp only [maxLen]; omega)
    (Nat.le_trans (Nat.mul_le_mul_left _ hbt) (by omega)) hbase
  exact ⟨v', w', hr, ⟨h2, (hown.2.1.append hfr).kept_type h3 (hown.typed' he), hown.2.2.append hd hap⟩, h3, h5⟩
theorem wpAppN {P : Program} {w : World} {ops : Array Oper} {rest : List Oper} {o : Oper} {a : Act} {Q : Exit → Act → World → Prop} (hgd : o.guard = none) (s x : Operand) (t e : TypeId)
    (ho : o.op = .call { callee := .builtin .append, args := #[s, x], argTypes := #[t, t] }) (size bytes : Nat) (z : Value)
    (ht : P.underlying t = some (.slice e)) (hinfo : (P.info? e).map (fun i => (i.zero, i.size, i.bytes)) = some (some z, size, bytes)) (hzs : z.cells.size = size) (hsz : 0 < size) (hbt : bytes ≤ 100) (he : e ≠ 3)
    (base b : Nat) (v : Value) (n m : Nat) (fs fs2 : List (Int ⊕ List Int)) (cells news : List Value) (ad : Addr) (c : Nat) (hs : a.eval s = v) (hx : a.eval x = .slice (some ad) m c)
    (hown : OF w base b e size v n fs cells) (hl : news.length = m * size) (hnews : ∀ j u, news[j]? = some u → w.cell? (ad.add j) = some u) (hfr : FRs w b fs2 news) (hd : Dist news)
    (hap : ∀ u ∈ cells, ∀ u' ∈ news, u.ownBlock = none ∨ u.ownBlock ≠ u'.ownBlock) (hlen : n + m ≤ 1000000000000) (hbase : base ≤ w.heap.size)
    (h : ∀ v' w', OF w' base b e size v' (n + m) (fs ++ fs2) (cells ++ news) → w.grownBy w' v.ownBlock → (v'.ownBlock = v.ownBlock ∨ v'.ownBlock = some w.heap.size) → wpList P ops Q rest (a.put o.dst v') w') :
    wpList P ops Q (o :: rest) a w := by
  refine wpList_plain hgd fun K hK => ?_
  obtain ⟨v', w', hr, h2, h3, h5⟩ := run_appN o.type ht hinfo hzs hsz hbt he hown ad c hl hnews hfr hd hap hlen hbase
  unfold Oper.wp execOp
  simp only [ho, resolve, invoke, builtin, Sem.run_bind, Sem.run_pure, Result.andThen_ok, List.map_toArray, List.map_cons, List.map_nil, hs, hx, hr]
  exact hK _ _ (h v' w' h2 h3 h5)

/-- A copy of the outer row: the rows themselves are shared. -/
def SharesS (w : World) (base b : Nat) (ls : List (List Int)) (cells : List Value) : Ending → World → Prop := fun e w' =>
  ∃ A n c, e = .returned (.slice A n c) ∧ OS w' base b (.slice A n c) ls cells ∧ (∀ k, (Value.slice A n c).ownBlock = some k → w.heap.size ≤ k) ∧ Below w.heap.size w w'
theorem cloneS_any {w : World} {base b n c : Nat} {A : Option Addr} {ls : List (List Int)} {cells : List Value} (h : OS w base b (.slice A n c) ls cells) (hn : n ≤ 1000000000) (hb : base ≤ w.heap.size) :
    Calls Try.prog 133 #[.slice A n c] w (SharesS w base b ls cells) := by
  have heq := fun (w : World) (a : Option Addr) (n c : Nat) => Lib.run_eql_slice_nil (P := Try.prog) w 42 22 a n c 0 0 Try.underlying42
  have H := Lib.hid h
  obtain ⟨A', c', hv, -, -, h0, hcl, hfl, hcells⟩ := OF.form h
  obtain ⟨rfl, rfl, rfl⟩ := slice_inj hv
  rcases A with _ | ad
  · have hn0 := h0 rfl
    obtain rfl : ls = [] := List.eq_nil_of_length_eq_zero hn0
    have HC : Hid (cells = []) := List.eq_nil_of_length_eq_zero hcl
    clear h hv h0 hcl hfl hcells
    go_enter Try.func133, Try.ntmps133
    go_wp2
    go_ret
    exact ⟨_, _, _, rfl, by rw [HC.out]; exact OF.nil_ _ _ _ _ _, by simp [Value.ownBlock], Below.refl _ _⟩
  · clear hv h0
    obtain ⟨w1, e1⟩ : ∃ W, W = w.alloc (.cells #[] 22) := ⟨_, rfl⟩
    have b1 : Below w.heap.size w w1 := by rw [e1]; exact (Below.refl _ _).alloc (Nat.le_refl _) _
    have hlit : Hid (OS w1 base b (.slice (some ⟨w.heap.size, 0, none⟩) 0 0) [] []) := by
      rw [e1]; exact OS.lit w base b [] [] hb FRs.nil_ Dist.nil_ (by simp) 0 rfl
    have HFR : Hid (FRs w1 b (rows ls) cells) := h.2.1.below b1
    have HCE : Hid (∀ j u, cells[j]? = some u → w1.cell? (ad.add j) = some u) := fun j u hu => by
      by_cases hp : 0 < ls.length
      · obtain ⟨ad', e, hc⟩ := hcells hp
        injection e with e
        subst e
        exact one_cell b1 (hc j u hu)
      · rw [show cells = [] from List.eq_nil_of_length_eq_zero (by omega)] at hu
        simp at hu
    have HB1 := Lib.hid b1
    have HS1 : Hid (w1.heap.size = w.heap.size + 1) := by show _ = _; rw [e1]; simp
    have E1 := Lib.hid e1
    clear h hfl hcells b1 e1
    go_enter Try.func133, Try.ntmps133
    go_wp2_with (at_builtin; rw [← E1.out]; refine wpAppN rfl _ _ 42 22 rfl 1 24 (.slice none 0 0) Try.underlying42 Try.infoInts rfl (by omega) (by omega) (by decide) base b (.slice (some ⟨w.heap.size, 0, none⟩) 0 0) 0 ls.length [] (rows ls) [] cells ad c rfl rfl hlit.out hcl HCE.out HFR.out H.out.2.2 (by simp) (by omega) (by have := HS1.out; omega) ?_; intro v' w' h1 h2 h3)
    have ho : OS w' base b v' ls cells := by
      unfold OS
      have := h1
      rw [Nat.zero_add, List.nil_append, List.nil_append] at this
      exact this
    obtain ⟨A2, n2, c2, rfl, -⟩ := OS.form ho
    go_ret
    refine ⟨_, _, _, rfl, ho, fun k hk => ?_, HB1.out.grown h2 HB1.out.size fun k hk => ?_⟩
    · rcases h3 with h3 | h3
      · rw [h3] at hk; simp [Value.ownBlock] at hk; omega
      · rw [h3] at hk; injection hk with hk; have := HS1.out; omega
    · simp [Value.ownBlock] at hk; omega
end Go.Proofs.Ytgbojgmmingfdaa

/- What fill does: the tableaux that go on with the rows that are there, in order; what a closure is asked that sees them. -/
namespace Go.Proofs.Ytgbojgmmingfdaa
open Go.RowKit

def prevOf (shape : List Int) (T : List (List Int)) : List Int := if T.length = 0 then List.replicate (nth shape 0).toNat (-1) else nthL T (T.length - 1)
/-- With whole rows. -/
def goA (shape : List Int) (n : Int) (T : List (List Int)) : List (List (List Int)) := (tabR n (prevOf shape T) (shape.drop T.length)).map (T ++ ·)
/-- With k more numbers in the row acc. -/
def goB (shape : List Int) (n : Int) (T : List (List Int)) (acc : List Int) (k : Nat) : List (List (List Int)) := (rowR n (prevOf shape T) k acc).flatMap fun row => goA shape n (T ++ [row])
theorem nthL_snoc (T : List (List Int)) (r : List Int) : nthL (T ++ [r]) T.length = r := by simp [nthL]
theorem nthL_app {T : List (List Int)} {j : Nat} (h : j < T.length) (r : List (List Int)) : nthL (T ++ r) j = nthL T j := by simp [nthL, List.getD, List.getElem?_append_left h]
theorem prevOf_snoc (shape : List Int) (T : List (List Int)) (r : List Int) : prevOf shape (T ++ [r]) = r := by
  unfold prevOf
  rw [if_neg (by simp), List.length_append, List.length_singleton, Nat.add_sub_cancel, nthL_snoc]
theorem goA_end {shape : List Int} {n : Int} {T : List (List Int)} (h : shape.length ≤ T.length) : goA shape n T = [T] := by
  unfold goA
  rw [List.drop_eq_nil_of_le h, tabR]; simp
theorem goA_row {shape : List Int} {n : Int} {T : List (List Int)} (h : T.length < shape.length) : goA shape n T = goB shape n T [] (nth shape T.length).toNat := by
  unfold goA goB
  rw [drop_nth h, tabR, List.map_flatMap]
  refine flatMap_same fun row _ => ?_
  unfold goA
  rw [List.map_map, prevOf_snoc, List.length_append, List.length_singleton]
  refine List.map_congr_left fun t _ => ?_
  simp
theorem goB_zero (shape : List Int) (n : Int) (T : List (List Int)) (acc : List Int) : goB shape n T acc 0 = goA shape n (T ++ [acc]) := by simp [goB, rowR]
theorem goB_succ (shape : List Int) (n : Int) (T : List (List Int)) (acc : List Int) (k : Nat) : goB shape n T acc (k + 1) = (upI (lowR (prevOf shape T) acc) (n - lowR (prevOf shape T) acc).toNat).flatMap fun x => goB shape n T (acc ++ [x]) k := by
  unfold goB
  rw [rowR, List.flatMap_assoc]
theorem goA_nil (shape : List Int) (n : Int) : goA shape n [] = tabs shape n := by
  unfold goA tabs prevOf
  simp
/-- Whole rows of a shape. -/
structure FS (shape : List Int) (n : Int) (T : List (List Int)) : Prop where
  le : T.length ≤ shape.length
  row : ∀ i, i < T.length → ((nthL T i).length : Int) = nth shape i
  ent : ∀ r ∈ T, ∀ x ∈ r, 0 ≤ x ∧ x < n
theorem FS.nil_ (shape : List Int) (n : Int) : FS shape n [] := ⟨Nat.zero_le _, by simp, by simp⟩
theorem FS.snoc {shape : List Int} {n : Int} {T : List (List Int)} {r : List Int} (h : FS shape n T) (hl : T.length < shape.length) (hr : (r.length : Int) = nth shape T.length) (he : ∀ x ∈ r, 0 ≤ x ∧ x < n) : FS shape n (T ++ [r]) := by
  refine ⟨by simp; omega, fun i hi => ?_, fun r' hr' => ?_⟩
  · rw [List.length_append, List.length_singleton] at hi
    by_cases h2 : i < T.length
    · rw [nthL_app h2]; exact h.row i h2
    · obtain rfl : i = T.length := by omega
      rw [nthL_snoc]; exact hr
  · rcases List.mem_append.1 hr' with hr' | hr'
    · exact h.ent r' hr'
    · rw [List.mem_singleton.1 hr']; exact he
theorem goA_len {shape : List Int} {n : Int} {T : List (List Int)} : ∀ t ∈ goA shape n T, T.length ≤ t.length := fun t ht => by
  obtain ⟨t', -, rfl⟩ := List.mem_map.1 ht
  simp
/-! ### closures that see -/
/-- Through a list, as long as it is wished. -/
def seeT {α S : Type} (step : S → α → S) (go : S → α → Bool) : S → List α → S × Bool
  | s, [] => (s, true)
  | s, p :: ps => if go s p = true then seeT step go (step s p) ps else (step s p, false)
section
variable {α S : Type} {step : S → α → S} {go : S → α → Bool}
theorem seeT_app (l1 l2 : List α) : ∀ s, seeT step go s (l1 ++ l2) = if (seeT step go s l1).2 = true then seeT step go (seeT step go s l1).1 l2 else seeT step go s l1 := by
  induction l1 with
  | nil => intro s; simp [seeT]
  | cons p l ih =>
    intro s
    rw [List.cons_append, seeT, seeT]
    by_cases h : go s p = true
    · rw [if_pos h, if_pos h, ih]
    · rw [if_neg h, if_neg h]
      simp
theorem seeT_all (hg : ∀ s p, go s p = true) (l : List α) : ∀ s, seeT step go s l = (l.foldl step s, true) := by
  induction l with
  | nil => intro s; rfl
  | cons p l ih => intro s; rw [seeT, if_pos (hg _ _), ih]; rfl
theorem seeT_one (s : S) (p : α) : seeT step go s [p] = (step s p, go s p) := by
  rw [seeT]
  by_cases h : go s p = true
  · rw [if_pos h, seeT, h]
  · rw [if_neg h]; simp at h; rw [h]
end
/-- The rows lie from block B on, and none of their blocks is among O. -/
def TO (B : Nat) (w : World) (O : Nat → Prop) (v : Value) (T : List (List Int)) (cells : List Value) : Prop :=
  OS w B B v T cells ∧ (∀ k, v.ownBlock = some k → ¬ O k) ∧ ∀ u ∈ cells, ∀ k, u.ownBlock = some k → ¬ O k
theorem OI.sameV {w w' : World} {b : Nat} {u : Value} {l : List Int} (h : OI w b u l) (hk : ∀ k, u.ownBlock = some k → w'.heap[k]? = w.heap[k]?) : OI w' b u l := by
  refine ⟨h.1, ?_⟩
  rcases h.2 with h1 | ⟨g, cap, cur, rfl, hb, hg, r⟩
  · exact .inl h1
  · exact .inr ⟨g, cap, cur, rfl, hb, (hk g rfl).trans hg, r⟩
theorem OF.sameV {w w' : World} {base b size n : Nat} {e : TypeId} {v : Value} {fs : List (Int ⊕ List Int)} {cells : List Value} (h : OF w base b e size v n fs cells) (hv : ∀ k, v.ownBlock = some k → w'.heap[k]? = w.heap[k]?)
    (hc : ∀ u ∈ cells, ∀ k, u.ownBlock = some k → w'.heap[k]? = w.heap[k]?) : OF w' base b e size v n fs cells := by
  refine ⟨⟨h.1.1, ?_⟩, ⟨h.2.1.1, fun j x u hx hu => ?_⟩, h.2.2⟩
  · rcases h.1.2 with h1 | ⟨g, cap, cur, rfl, hb, hg, r⟩
    · exact .inl h1
    · exact .inr ⟨g, cap, cur, rfl, hb, (hv g rfl).trans hg, r⟩
  · have hf := h.2.1.2 j x u hx hu
    cases x with
    | inl y => exact hf
    | inr l => exact OI.sameV (w := w) hf (hc u (List.mem_of_getElem? hu))
theorem FRs.ltC {w : World} {b : Nat} {fs : List (Int ⊕ List Int)} {cells : List Value} (h : FRs w b fs cells) {u : Value} (hu : u ∈ cells) : ∀ k, u.ownBlock = some k → b ≤ k ∧ k < w.heap.size := by
  obtain ⟨j, hj, e⟩ := List.getElem_of_mem hu
  have h1 : cells[j]? = some u := by rw [List.getElem?_eq_getElem hj, e]
  have hlt : j < fs.length := by have := h.1; omega
  exact (h.2 j fs[j] u (List.getElem?_eq_getElem hlt) h1).lt
section
variable {B : Nat} {w w' : World} {O O' : Nat → Prop} {v : Value} {T : List (List Int)} {cells : List Value}
theorem TO.keep (h : TO B w O v T cells) {X : Nat → Prop} (hk : Kept X w w') (h1 : ∀ k, v.ownBlock = some k → ¬ X k) (h2 : ∀ u ∈ cells, ∀ k, u.ownBlock = some k → ¬ X k) (hO : ∀ k, O' k → O k ∨ w.heap.size ≤ k) : TO B w' O' v T cells := by
  obtain ⟨a, b, c⟩ := h
  refine ⟨OF.sameV a (fun k hk2 => hk.block k (OF.lt a k hk2).2 (h1 k hk2)) fun u hu k hk2 => hk.block k (a.2.1.ltC hu k hk2).2 (h2 u hu k hk2), fun k hk2 h3 => ?_, fun u hu k hk2 h3 => ?_⟩
  · rcases hO k h3 with h4 | h4
    · exact b k hk2 h4
    · have := (OF.lt a k hk2).2; omega
  · rcases hO k h3 with h4 | h4
    · exact c u hu k hk2 h4
    · have := (a.2.1.ltC hu k hk2).2; omega
theorem TO.seen (h : TO B w O v T cells) (hk : Kept O w w') (hO : ∀ k, O' k → O k ∨ w.heap.size ≤ k) : TO B w' O' v T cells := h.keep hk h.2.1 h.2.2 hO
theorem TO.below (h : TO B w O v T cells) (b : Below w.heap.size w w') : TO B w' O v T cells := h.seen (Kept.of_below b) fun k h => .inl h
end
/-- What a closure is asked that sees tableaux. -/
structure ClosT (P : Program) (F : FuncId) (caps : Array Value) (B0 : Nat) (S : Type) (inv : World → S → (Nat → Prop) → Prop) (step : S → List (List Int) → S) (go : S → List (List Int) → Bool) (fit : S → Nat → Prop) (okp : List (List Int) → Prop) : Prop where
  ent : ∀ (args : Array Value) (w : World), (callFunc F args).run P w = .ok (.enter F args) w
  ge : ∀ {w : World} {s : S} {O : Nat → Prop}, inv w s O → ∀ k, O k → B0 ≤ k ∧ k < w.heap.size
  keep : ∀ {w w' : World} {s : S} {O : Nat → Prop}, inv w s O → Kept (fun k => B0 ≤ k ∧ ¬ O k) w w' → inv w' s O
  next : ∀ {s : S} {p : List (List Int)} {m : Nat}, fit s (m + 1) → okp p → go s p = true → fit (step s p) m
  less : ∀ {s : S} {m m' : Nat}, fit s m → m' ≤ m → fit s m'
  call : ∀ {w : World} {s : S} {O : Nat → Prop} {T : List (List Int)} {m : Nat} {A : Option Addr} {n c : Nat} {cells : List Value}, inv w s O → fit s (m + 1) → okp T → TO B0 w O (.slice A n c) T cells →
    Calls P F (#[.slice A n c] ++ caps) w (fun e w' => e = .returned (.bool (go s T)) ∧ ∃ O' : Nat → Prop, inv w' (step s T) O' ∧ (∀ k, O' k → O k ∨ w.heap.size ≤ k) ∧ Kept O w w')
theorem ClosT.all {P : Program} {F : FuncId} {caps : Array Value} {B0 : Nat} {S : Type} {inv : World → S → (Nat → Prop) → Prop} {step : S → List (List Int) → S} {go : S → List (List Int) → Bool} {fit : S → Nat → Prop} {okp : List (List Int) → Prop} (C : ClosT P F caps B0 S inv step go fit okp) (m : Nat) :
    ∀ (l : List (List (List Int))) (s : S), (∀ q ∈ l, okp q) → fit s (l.length + m) → (seeT step go s l).2 = true → fit (seeT step go s l).1 m := by
  intro l
  induction l with
  | nil => intro s _ h _; simpa [seeT] using h
  | cons p l ih =>
    intro s hok h h2
    rw [seeT] at h2 ⊢
    by_cases hg : go s p = true
    · rw [if_pos hg] at h2 ⊢
      exact ih _ (fun q hq => hok q (List.mem_cons_of_mem _ hq)) (C.next (by rw [List.length_cons] at h; rw [show l.length + m + 1 = l.length + 1 + m by omega]; exact h) (hok p (by simp)) hg) h2
    · rw [if_neg hg] at h2
      cases h2
/-- What a call leaves that has seen. -/
def PostT {S : Type} (inv : World → S → (Nat → Prop) → Prop) (O : Nat → Prop) (v : Value) (w : World) (res : S × Bool) : Ending → World → Prop := fun e w' =>
  e = .returned (.bool res.2) ∧ ∃ O' : Nat → Prop, inv w' res.1 O' ∧ (∀ k, O' k → O k ∨ w.heap.size ≤ k) ∧ Kept (fun k => O k ∨ v.ownBlock = some k) w w'
def stepsR (ms : List Int) : Nat := (ms.map fun m => m.toNat + 1).sum
theorem stepsR_drop {shape : List Int} {r : Nat} (h : r < shape.length) : stepsR (shape.drop r) = (nth shape r).toNat + 1 + stepsR (shape.drop (r + 1)) := by
  rw [drop_nth h]; simp [stepsR]
section
variable {F : FuncId} {caps : Array Value} {S : Type} {inv : World → S → (Nat → Prop) → Prop} {step : S → List (List Int) → S} {go : S → List (List Int) → Bool} {fit : S → Nat → Prop} {okp : List (List Int) → Prop}
/-- fill at whole rows. -/
def FillA (w0 : World) (shape : List Int) (As : Option Addr) (ns cs : Nat) (n : Int) (_ : ClosT Try.prog F caps w0.heap.size S inv step go fit okp) (d : Nat) : Prop :=
  ∀ (w : World) (s : S) (O : Nat → Prop) (T : List (List Int)) (A : Option Addr) (m c : Nat) (cells : List Value), inv w s O → TO w0.heap.size w O (.slice A m c) T cells → Below w0.heap.size w0 w → FS shape n T → stepsR (shape.drop T.length) = d →
    fit s (goA shape n T).length → (∀ q ∈ goA shape n T, okp q) →
    Calls Try.prog 63 #[.slice As ns cs, .int .i64 n, .slice A m c, .func (.func F) #[] caps] w (PostT inv O (.slice A m c) w (seeT step go s (goA shape n T)))
/-- fill in a row. -/
def FillB (w0 : World) (shape : List Int) (As : Option Addr) (ns cs : Nat) (n : Int) (_ : ClosT Try.prog F caps w0.heap.size S inv step go fit okp) (d : Nat) : Prop :=
  ∀ (w : World) (s : S) (O : Nat → Prop) (T : List (List Int)) (acc : List Int) (k : Nat) (A : Option Addr) (m c : Nat) (cells : List Value), inv w s O → TO w0.heap.size w O (.slice A m c) (T ++ [acc]) cells → Below w0.heap.size w0 w → FS shape n T →
    T.length < shape.length → ((acc.length + (k + 1) : Nat) : Int) = nth shape T.length → (∀ x ∈ acc, 0 ≤ x ∧ x < n) → k + 1 + stepsR (shape.drop (T.length + 1)) = d →
    fit s (goB shape n T acc (k + 1)).length → (∀ q ∈ goB shape n T acc (k + 1), okp q) →
    Calls Try.prog 63 #[.slice As ns cs, .int .i64 n, .slice A m c, .func (.func F) #[] caps] w (PostT inv O (.slice A m c) w (seeT step go s (goB shape n T acc (k + 1))))
end
end Go.Proofs.Ytgbojgmmingfdaa
