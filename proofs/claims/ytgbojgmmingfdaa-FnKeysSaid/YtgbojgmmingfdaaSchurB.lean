/- Bounds of the keys and coefficients of Schur polynomials. No program is in sight here. -/
import Derived.Test.YtgbojgmmingfdaaMons
import Derived.Test.YtgbojgmmingfdaaPolySp
namespace Go.Proofs.Ytgbojgmmingfdaa

theorem insK_abs {k c : Int} : ∀ {l : List (Int × Int)}, absK (insK k c l) ≤ absK l + c.natAbs
  | [] => by rw [insK]; split <;> simp [absK]
  | x :: r => by
    have ih := insK_abs (k := k) (c := c) (l := r)
    have e : ∀ (y : Int × Int) (s : List (Int × Int)), absK (y :: s) = y.2.natAbs + absK s := fun y s => by simp [absK]
    rw [insK]
    split
    · rw [e, e]; omega
    · split
      · split
        · rw [e]; omega
        · rw [e, e]
          show (x.2 + c).natAbs + _ ≤ _
          omega
      · split
        · omega
        · rw [e]
          show c.natAbs + _ ≤ _
          omega
theorem gatherK_abs (l : List (Int × Int)) : absK (gatherK l) ≤ absK l := by
  induction l with
  | nil => simp [gatherK, absK]
  | cons x l ih =>
    have h := insK_abs (k := x.1) (c := x.2) (l := gatherK l)
    have e : absK (x :: l) = x.2.natAbs + absK l := by simp [absK]
    show absK (insK x.1 x.2 (gatherK l)) ≤ _
    omega
theorem gatherK_mem {l : List (Int × Int)} : ∀ {x : Int × Int}, x ∈ gatherK l → ∃ y ∈ l, y.1 = x.1 := by
  induction l with
  | nil => intro x h; simp [gatherK] at h
  | cons z l ih =>
    intro x h
    rcases insK_key h with h | h
    · obtain ⟨y, h1, h2⟩ := ih h
      exact ⟨y, List.mem_cons_of_mem _ h1, h2⟩
    · exact ⟨z, by simp, h.symm⟩
theorem absK_len {l : List (Int × Int)} (h : ∀ x ∈ l, x.2 ≠ 0) : l.length ≤ absK l := by
  induction l with
  | nil => simp
  | cons x l ih =>
    have e : absK (x :: l) = x.2.natAbs + absK l := by simp [absK]
    have h1 := h x (by simp)
    have h2 := ih fun y hy => h y (List.mem_cons_of_mem _ hy)
    rw [e, List.length_cons]; omega
/-- One strip's part of the polynomial. -/
def partK (n : Nat) (ms mu : List Int) : List (Int × Int) := (schurK n (bare mu)).map fun x => (x.1 + (ms.sum - (bare mu).sum) * 128 ^ n, x.2)
theorem absK_shift (l : List (Int × Int)) (d : Int) : absK (l.map fun x => (x.1 + d, x.2)) = absK l := by
  unfold absK; rw [List.map_map]; rfl
theorem absK_flat {α : Type} {f : α → List (Int × Int)} {g : α → List Int} : ∀ {l : List α}, (∀ a ∈ l, absK (f a) ≤ (g a).length) → absK (l.flatMap f) ≤ (l.flatMap g).length
  | [], _ => by simp [absK]
  | a :: l, h => by
    rw [List.flatMap_cons, List.flatMap_cons, absK_app, List.length_append]
    have h1 := h a (by simp)
    have h2 := absK_flat (l := l) fun b hb => h b (List.mem_cons_of_mem _ hb)
    omega
theorem schurK_abs : ∀ (n : Nat) (ms : List Int), Desc ms → Pos ms → absK (schurK n ms) ≤ (keysS ms n).length
  | 0, ms, hd, hp => by
    rw [schurK]
    split
    · simp [absK]
    · rename_i h
      obtain rfl : ms = [] := List.eq_nil_of_length_eq_zero (by omega)
      rw [keysS_nil]; decide
  | n + 1, ms, hd, hp => by
    rw [schurK]
    split
    · simp [absK]
    · split
      · rename_i h
        obtain rfl : ms = [] := List.eq_nil_of_length_eq_zero h
        rw [keysS_nil]; decide
      · refine Nat.le_trans (gatherK_abs _) ?_
        have e := (keysS_cut (n := n) hd).length_eq
        rw [show ((n + 1 : Nat) : Int) = (n : Int) + 1 by omega, e]
        refine absK_flat fun mu hmu => ?_
        obtain ⟨b1, b2⟩ := strips_bare hd hp hmu
        rw [absK_shift, List.length_map]
        exact schurK_abs n (bare mu) b1 b2
theorem parts_abs {n : Nat} {ms : List Int} (hd : Desc ms) (hp : Pos ms) (h8 : ms.sum ≤ 8) (hn : n + 1 ≤ 7) : absK ((stripsR ms).flatMap (partK n ms)) ≤ 5764801 ∧ ((stripsR ms).flatMap (partK n ms)).length ≤ 5764801 := by
  have h1 : absK ((stripsR ms).flatMap (partK n ms)) ≤ 5764801 := by
    have e := (keysS_cut (n := n) hd).length_eq
    refine Nat.le_trans (absK_flat (g := fun mu => (keysS (bare mu) n).map (· + (ms.sum - (bare mu).sum) * 128 ^ n)) fun mu hmu => ?_) ?_
    · obtain ⟨b1, b2⟩ := strips_bare hd hp hmu
      unfold partK
      rw [absK_shift, List.length_map]
      exact schurK_abs n (bare mu) b1 b2
    · rw [← e]
      have := tabs_len (n := n + 1) hd h8 hn
      unfold keysS
      rw [List.length_map]
      exact this
  refine ⟨h1, Nat.le_trans (absK_len fun x hx => ?_) h1⟩
  obtain ⟨mu, -, hx⟩ := List.mem_flatMap.1 hx
  obtain ⟨y, hy, rfl⟩ := List.mem_map.1 hx
  exact (schurK_srt n (bare mu)).2 y hy
theorem sum_nonneg : ∀ {ms : List Int}, Desc ms → 0 ≤ ms.sum
  | [], _ => Int.le_refl _
  | m :: ms, h => by
    have := sum_nonneg h.2.2
    have := h.2.1
    rw [List.sum_cons]; omega
theorem strips_sum : ∀ {ms mu : List Int}, Desc ms → mu ∈ stripsR ms → mu.sum ≤ ms.sum
  | [], mu, _, h => by
    rw [stripsR, List.mem_singleton] at h
    subst h; exact Int.le_refl _
  | m :: ms, mu, hd, h => by
    rw [stripsR, List.mem_flatMap] at h
    obtain ⟨c, hc, h⟩ := h
    obtain ⟨nu, hnu, rfl⟩ := List.mem_map.1 h
    have hc := upI_mem.1 hc
    have := strips_sum hd.2.2 hnu
    have h0 := hd.1
    rw [List.sum_cons, List.sum_cons]; omega
theorem pow_mono {n : Nat} : (128 : Int) ^ n ≤ 128 ^ (n + 1) := by
  have : (0 : Int) < 128 ^ n := by
    induction n with
    | zero => decide
    | succ n ih => rw [Int.pow_succ]; omega
  rw [Int.pow_succ]; omega
theorem pow_pos (n : Nat) : (0 : Int) < 128 ^ n := by
  induction n with
  | zero => decide
  | succ n ih => rw [Int.pow_succ]; omega
theorem schurK_key : ∀ (n : Nat) (ms : List Int), Desc ms → Pos ms → ∀ x ∈ schurK n ms, 0 ≤ x.1 ∧ x.1 ≤ ms.sum * 128 ^ n
  | 0, ms, hd, hp, x, hx => by
    rw [schurK] at hx
    split at hx
    · cases hx
    · rw [List.mem_singleton.1 hx]
      exact ⟨Int.le_refl _, Int.mul_nonneg (sum_nonneg hd) (by decide)⟩
  | n + 1, ms, hd, hp, x, hx => by
    have hp0 := pow_pos n
    have hs0 := sum_nonneg hd
    have hup : ms.sum * 128 ^ n ≤ ms.sum * 128 ^ (n + 1) := Int.mul_le_mul_of_nonneg_left pow_mono hs0
    rw [schurK] at hx
    split at hx
    · cases hx
    · split at hx
      · rw [List.mem_singleton.1 hx]
        exact ⟨Int.le_refl _, Int.mul_nonneg hs0 (Int.le_of_lt (pow_pos _))⟩
      · obtain ⟨y, hy, e⟩ := gatherK_mem hx
        obtain ⟨mu, hmu, hy⟩ := List.mem_flatMap.1 hy
        obtain ⟨z, hz, rfl⟩ := List.mem_map.1 hy
        obtain ⟨b1, b2⟩ := strips_bare hd hp hmu
        have h1 := schurK_key n (bare mu) b1 b2 z hz
        have h2 := strips_sum hd hmu
        rw [← sum_bare] at h2
        have h3 : 0 ≤ (ms.sum - (bare mu).sum) * 128 ^ n := Int.mul_nonneg (by omega) (Int.le_of_lt hp0)
        rw [Int.sub_mul] at h3
        simp only at e
        rw [Int.sub_mul] at e
        omega
theorem schurK_range {n : Nat} {ms : List Int} (hd : Desc ms) (hp : Pos ms) (h8 : ms.sum ≤ 8) (hn : n ≤ 7) {x : Int × Int} (hx : x ∈ schurK n ms) : 0 ≤ x.1 ∧ x.1 ≤ 4503599627370496 := by
  have h := schurK_key n ms hd hp x hx
  have h2 : ms.sum * 128 ^ n ≤ 8 * 128 ^ n := Int.mul_le_mul_of_nonneg_right h8 (Int.le_of_lt (pow_pos n))
  have h3 : (128 : Int) ^ n ≤ 128 ^ 7 := by
    have : n = 0 ∨ n = 1 ∨ n = 2 ∨ n = 3 ∨ n = 4 ∨ n = 5 ∨ n = 6 ∨ n = 7 := by omega
    rcases this with rfl | rfl | rfl | rfl | rfl | rfl | rfl | rfl <;> decide
  have h4 : (128 : Int) ^ 7 = 562949953421312 := by decide
  omega
end Go.Proofs.Ytgbojgmmingfdaa

/- Polynomials as maps, in the words of keys: what a map holds is known by its list of keys with coefficients. -/
namespace Go.Proofs.Ytgbojgmmingfdaa
open Go.RowKit Go.Maps Go.MapKept Go.WideMaps

/-- Terms of a polynomial whose exponents are at most E. -/
structure PolE (E : Int) (acc : List (List Int × Int)) : Prop where
  srt : Srt acc
  ok : ∀ x ∈ acc, (x.1.length = 7 ∧ ∀ j, 0 ≤ nth x.1 j ∧ nth x.1 j ≤ E) ∧ x.2 ≠ 0
def absT (l : List (List Int × Int)) : Nat := (l.map fun x => x.2.natAbs).sum
theorem absT_cons (x : List Int × Int) (l : List (List Int × Int)) : absT (x :: l) = x.2.natAbs + absT l := by simp [absT]
theorem absT_app (a b : List (List Int × Int)) : absT (a ++ b) = absT a + absT b := by simp [absT, List.sum_append]
theorem absT_kc (l : List (List Int × Int)) : absK (l.map kc) = absT l := by unfold absK absT; rw [List.map_map]; rfl
def addsP (acc X : List (List Int × Int)) : List (List Int × Int) := X.foldl (fun a x => addP a x.1 x.2) acc
theorem addsP_app (acc X Y : List (List Int × Int)) : addsP acc (X ++ Y) = addsP (addsP acc X) Y := by simp [addsP]
def kf (acc : List (List Int × Int)) : List (Int × Int) := gatherK (acc.map kc)
theorem addR_val {s : List Int} {n : Int} (hn : n ≠ 0) : ∀ {ps : List (List Int × Int)} {x : List Int × Int}, x ∈ addR ps s n → x ∈ ps ∨ (x.1 = s ∧ (x.2 ≠ 0))
  | [], x, h => by simp [addR] at h; exact .inr (by rw [h]; exact ⟨rfl, hn⟩)
  | y :: r, x, h => by
    rw [addR] at h
    split at h
    · rcases List.mem_cons.1 h with h | h
      · exact .inl (by rw [h]; simp)
      · exact (addR_val hn h).imp (List.mem_cons_of_mem _) id
    · split at h
      · split at h
        · exact .inl (List.mem_cons_of_mem _ h)
        · rename_i h3
          rcases List.mem_cons.1 h with h | h
          · exact .inr (by rw [h]; exact ⟨rfl, h3⟩)
          · exact .inl (List.mem_cons_of_mem _ h)
      · rcases List.mem_cons.1 h with h | h
        · exact .inr (by rw [h]; exact ⟨rfl, hn⟩)
        · exact .inl h
theorem addR_abs {s : List Int} {n : Int} : ∀ {ps : List (List Int × Int)}, absT (addR ps s n) ≤ absT ps + n.natAbs
  | [] => by simp [addR, absT]
  | y :: r => by
    have ih := addR_abs (s := s) (n := n) (ps := r)
    rw [addR]
    split
    · rw [absT_cons, absT_cons]; omega
    · split
      · split
        · rw [absT_cons]; omega
        · rw [absT_cons, absT_cons]
          show (y.2 + n).natAbs + _ ≤ _
          omega
      · rw [absT_cons]
        show n.natAbs + _ ≤ _
        omega
section
variable {E : Int} {acc X : List (List Int × Int)}
theorem PolE.nil_ (E : Int) : PolE E [] := ⟨fun i j _ hj => by simp at hj, by simp⟩
theorem PolE.add (h : PolE E acc) {e : List Int} (c : Int) (he : e.length = 7 ∧ ∀ j, 0 ≤ nth e j ∧ nth e j ≤ E) : PolE E (addP acc e c) := by
  by_cases hc : c = 0
  · subst hc; rw [addP_none0]; exact h
  · refine ⟨addP_srt h.srt, fun x hx => ?_⟩
    rw [addP_rec hc] at hx
    rcases addR_val hc hx with hx | ⟨h1, h2⟩
    · exact h.ok x hx
    · rw [h1]; exact ⟨he, h2⟩
theorem addP_abs {e : List Int} {c : Int} : absT (addP acc e c) ≤ absT acc + c.natAbs := by
  by_cases hc : c = 0
  · subst hc; rw [addP_none0]; simp
  · rw [addP_rec hc]; exact addR_abs
theorem coef_addP {e : List Int} {c : Int} (k : Int) : coefK ((addP acc e c).map kc) k = coefK (acc.map kc) k + if keyL e = k then c else 0 := by
  by_cases hc : c = 0
  · subst hc; rw [addP_none0]; simp
  · rw [addP_rec hc]; exact coef_addR k acc
theorem PolE.adds : ∀ {X acc : List (List Int × Int)}, PolE E acc → (∀ x ∈ X, x.1.length = 7 ∧ ∀ j, 0 ≤ nth x.1 j ∧ nth x.1 j ≤ E) → PolE E (addsP acc X)
  | [], _, h, _ => h
  | x :: X, _, h, hX => PolE.adds (X := X) (h.add x.2 (hX x (by simp))) fun y hy => hX y (List.mem_cons_of_mem _ hy)
theorem adds_abs : ∀ {X acc : List (List Int × Int)}, absT (addsP acc X) ≤ absT acc + absT X
  | [], _ => by simp [addsP, absT]
  | x :: X, acc => by
    have h1 := adds_abs (X := X) (acc := addP acc x.1 x.2)
    have h2 := addP_abs (acc := acc) (e := x.1) (c := x.2)
    rw [absT_cons]
    have e : addsP acc (x :: X) = addsP (addP acc x.1 x.2) X := rfl
    rw [e]; omega
theorem coef_adds (k : Int) : ∀ {X acc : List (List Int × Int)}, coefK ((addsP acc X).map kc) k = coefK (acc.map kc) k + coefK (X.map kc) k
  | [], _ => by simp [addsP, coefK]
  | x :: X, acc => by
    have e : addsP acc (x :: X) = addsP (addP acc x.1 x.2) X := rfl
    rw [e, coef_adds k, coef_addP, List.map_cons, coefK_cons]
    show _ = _ + ((if keyL x.1 = k then x.2 else 0) + _)
    omega
theorem kf_adds : kf (addsP acc X) = gatherK (acc.map kc ++ X.map kc) :=
  srtK_uniq (gatherK_srt _) (gatherK_srt _) fun k => by unfold kf; rw [gatherK_coef, gatherK_coef, coef_adds, coefK_append]
theorem PolE.cf_abs (h : PolE E acc) (e : List Int) : (cf acc e).natAbs ≤ absT acc := by
  by_cases hc : cf acc e = 0
  · rw [hc]; simp
  · have h1 := cf_key hc
    have : ∀ {l : List (List Int × Int)} {x : List Int × Int}, x ∈ l → x.2.natAbs ≤ absT l := fun {l x} hx => by
      induction l with
      | nil => cases hx
      | cons y l ih =>
        rw [absT_cons]
        rcases List.mem_cons.1 hx with rfl | hx
        · omega
        · have := ih hx; omega
    exact this h1
theorem PolE.mono {E' : Int} (h : PolE E acc) (he : E ≤ E') : PolE E' acc := ⟨h.srt, fun x hx => by
  obtain ⟨⟨h1, h2⟩, h3⟩ := h.ok x hx
  exact ⟨⟨h1, fun j => by have := h2 j; omega⟩, h3⟩⟩
theorem PolE.good (h : PolE E acc) (hE : E ≤ 1000000) : GoodP acc := ⟨h.srt, fun x hx => by
  obtain ⟨⟨h1, h2⟩, h3⟩ := h.ok x hx
  refine ⟨⟨h1, fun y hy => ?_⟩, h3⟩
  obtain ⟨j, hj, rfl⟩ := List.getElem_of_mem hy
  have := h2 j
  rw [nth_lt hj] at this
  exact WalkArith.wf_i64 (by omega)⟩
theorem PolE.exB (h : PolE E acc) (hE : E ≤ 1000000) : ∀ x ∈ acc, Ex7B x.1 := fun x hx => by
  obtain ⟨⟨h1, h2⟩, h3⟩ := h.ok x hx
  exact ⟨h1, fun j _ => by have := h2 j; omega⟩
theorem PolE.ex128 (h : PolE E acc) (hE : E ≤ 127) : ∀ x ∈ acc, x.1.length = 7 ∧ Ex128 x.1 := fun x hx => by
  obtain ⟨⟨h1, h2⟩, h3⟩ := h.ok x hx
  exact ⟨h1, fun j _ => by have := h2 j; omega⟩
theorem PolE.isL (h : PolE E acc) (hE : E ≤ 127) : IsL acc (kf acc) := fun ps hp hs => by
  obtain ⟨s1, s2⟩ := sorted_keys hp hs h.srt fun x hx => ⟨(h.ex128 hE x hx).1, (h.ex128 hE x hx).2, (h.ok x hx).2⟩
  exact srtK_uniq s1 (gatherK_srt _) fun k => by rw [s2]; exact (gatherK_coef _ _).symm
theorem PolE.perm (h : PolE E acc) (hE : E ≤ 127) : (kf acc).Perm (acc.map kc) := by
  obtain ⟨ps, p1, p2⟩ := sorted_ex fun x hx => (h.ex128 hE x hx).2
  rw [← h.isL hE ps p1 p2]
  exact p1.map kc
theorem PolE.len (h : PolE E acc) : acc.length ≤ absT acc := by
  have h0 := h.ok
  clear h
  induction acc with
  | nil => simp
  | cons x r ih =>
    have h1 := (h0 x (by simp)).2
    have h2 := ih fun y hy => h0 y (List.mem_cons_of_mem _ hy)
    rw [absT_cons, List.length_cons]; omega
end
/-- Block b is a map that is a polynomial: its exponents are at most E, its coefficients together at most C, its keys are L. -/
def PK (H : Type) (w : World) (b : Nat) (E : Int) (C : Nat) (L : List (Int × Int)) : Prop := ∃ n acc, PM H w b n acc ∧ n ≤ 100000000 ∧ PolE E acc ∧ absT acc ≤ C ∧ kf acc = L
theorem PK.lt {H : Type} {w : World} {b : Nat} {E : Int} {C : Nat} {L : List (Int × Int)} (h : PK H w b E C L) : b < w.heap.size := by
  obtain ⟨n, acc, h1, -⟩ := h
  exact h1.lt
theorem PK.same {H : Type} {w w' : World} {b : Nat} {E : Int} {C : Nat} {L : List (Int × Int)} (h : PK H w b E C L) (e : w'.heap[b]? = w.heap[b]?) : PK H w' b E C L := by
  obtain ⟨n, acc, h1, h2⟩ := h
  exact ⟨n, acc, h1.same e, h2⟩
theorem PK.below {H : Type} {w w' : World} {b : Nat} {E : Int} {C : Nat} {L : List (Int × Int)} (h : PK H w b E C L) (hb : Below w.heap.size w w') : PK H w' b E C L := h.same (hb.block b h.lt)
/-- What a function leaves that returns a new polynomial. -/
def MakesK (H : Type) (w : World) (E : Int) (C : Nat) (L : List (Int × Int)) : Ending → World → Prop := fun e w' => ∃ b, e = .returned (.map (some b)) ∧ w.heap.size ≤ b ∧ PK H w' b E C L ∧ Below w.heap.size w w'
/-- closed, in the words of keys. -/
theorem closedK_any {H : Type} {w : World} {b : Nat} {E : Int} {C : Nat} {L : List (Int × Int)} (h : PK H w b E C L) (hE : E ≤ 127) : Calls Try.prog 66 #[.map (some b)] w (MakesTm w (shutT L) (shutB L)) := by
  obtain ⟨n, acc, h1, h2, h3, h4, h5⟩ := h
  refine (closed_any h1 (h3.good (by omega)) (h3.exB (by omega))).mono fun e w' hc => ?_
  obtain ⟨v, b', rfl, hv⟩ := closedV hc
  obtain ⟨c1, cells, c2, c3⟩ := closed_is hv (h3.ex128 hE) (h3.isL hE)
  rw [h5] at c2 c3
  exact ⟨v, cells, by rw [c3], c2, c1⟩
end Go.Proofs.Ytgbojgmmingfdaa
