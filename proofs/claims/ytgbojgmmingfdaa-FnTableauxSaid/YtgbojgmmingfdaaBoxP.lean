/- All shapes in boxes of at most six: where they lie in the list of shapes; what they are as permutations and strings. -/
import Derived.Test.YtgbojgmmingfdaaPlain
import Derived.Test.YtgbojgmmingfdaaDraw
import Derived.Test.YtgbojgmmingfdaaShapes
import Derived.Test.YtgbojgmmingfdaaTabP
import Derived.Test.YtgbojgmmingfdaaTabS
import Derived.Test.YtgbojgmmingfdaaSchurB
import Derived.Test.YtgbojgmmingfdaaFillT
namespace Go.Proofs.Ytgbojgmmingfdaa

theorem mem_upto {f : Nat → List (List Int)} {x y : Nat} {l : List Int} (h : l ∈ f (y + 1)) (hy : y < x) : ((y + 1 : Nat) : Int) :: l ∈ shapesUpto f x := by
  induction x with
  | zero => omega
  | succ x ih =>
    unfold shapesUpto
    rw [List.mem_append]
    by_cases e : y = x
    · subst e
      exact .inr (List.mem_map.2 ⟨l, h, rfl⟩)
    · exact .inl (ih (by omega))
theorem nth_cons (a : Int) (l : List Int) (j : Nat) : nth (a :: l) (j + 1) = nth l j := by simp [nth, List.getD]
theorem shIn_mem : ∀ (K M : Nat) (l : List Int), ShIn l K M → l ∈ shapesIn K M
  | 0, M, l, h => by
    have := h.len
    obtain rfl : l = [] := List.eq_nil_of_length_eq_zero (by omega)
    exact List.mem_singleton.2 rfl
  | K + 1, M, [], h => by unfold shapesIn; exact List.mem_cons_self
  | K + 1, M, a :: l, h => by
    have h0 := h.pos 0 (by simp)
    have e0 : nth (a :: l) 0 = a := rfl
    rw [e0] at h0
    obtain ⟨y, hy⟩ := Int.eq_ofNat_of_zero_le (a := a - 1) (by omega)
    have ha : a = ((y + 1 : Nat) : Int) := by omega
    have hl : ShIn l K (y + 1) := by
      have hlen := h.len
      have hdn : ∀ j, j < l.length → nth l j ≤ a := by
        intro j
        induction j with
        | zero =>
          intro hj
          have := h.down 0 (by simp; omega)
          rwa [nth_cons, e0] at this
        | succ j ih =>
          intro hj
          have := h.down (j + 1) (by simp; omega)
          rw [nth_cons, nth_cons] at this
          have := ih (by omega)
          omega
      refine ⟨by simp at hlen; omega, fun j hj => ?_, fun j hj => ?_⟩
      · have := h.pos (j + 1) (by simp; omega)
        rw [nth_cons] at this
        have := hdn j hj
        omega
      · have := h.down (j + 1) (by simp; omega)
        rwa [nth_cons, nth_cons] at this
    have := shIn_mem K (y + 1) l hl
    unfold shapesIn
    refine List.mem_cons_of_mem _ ?_
    rw [ha]
    exact mem_upto this (by omega)

/-- What is asked of a shape in a box. -/
def boxedB (l : List Int) (K M : Nat) : Bool :=
  let n : Int := (K : Int) + M
  let w := grassB l K n
  let s := strB l K n
  grassmannB w && (decide (lengthB w = sumL l) && (isStrB s && (decide (onesStr s = K) && (decide (shapeStr s = l) && (decide (conjB (conjB l) = l) &&
    (decide (oneDesc w = decide (0 < l.length)) && (!oneDesc w || (decide (shpK w = K) && decide (shpB w = l)))))))))
theorem boxed_all : (List.range 7).all (fun K => (List.range (7 - K)).all fun M => decide (K + M < 2) || (shapesIn K M).all fun l => boxedB l K M) = true := by decide +kernel
theorem boxed_at {K M : Nat} {l : List Int} (h : 2 ≤ K + M ∧ K + M ≤ 6) (hl : ShIn l K M) : boxedB l K M = true := by
  have h0 := boxed_all
  rw [List.all_eq_true] at h0
  have h1 := h0 K (by rw [List.mem_range]; omega)
  rw [List.all_eq_true] at h1
  have h2 := h1 M (by rw [List.mem_range]; omega)
  rw [Bool.or_eq_true, decide_eq_true_eq] at h2
  have h3 := h2.resolve_left (by omega)
  rw [List.all_eq_true] at h3
  exact h3 l (shIn_mem K M l hl)
theorem boxed_facts {K M : Nat} {l w s : List Int} (hw : w = grassB l K ((K : Int) + M)) (hs : s = strB l K ((K : Int) + M)) (h : boxedB l K M = true) :
    grassmannB w = true ∧ lengthB w = sumL l ∧ isStrB s = true ∧ onesStr s = K ∧ shapeStr s = l ∧ conjB (conjB l) = l ∧ oneDesc w = decide (0 < l.length) ∧ (0 < l.length → shpK w = K ∧ shpB w = l) := by
  unfold boxedB at h
  simp only [← hw, ← hs, Bool.and_eq_true, decide_eq_true_eq] at h
  obtain ⟨h1, h2, h3, h4, h5, h6, h7, h8⟩ := h
  refine ⟨h1, h2, h3, h4, h5, h6, h7, fun hl => ?_⟩
  rw [h7] at h8
  simp only [hl, decide_true, Bool.not_true, Bool.false_or, Bool.and_eq_true, decide_eq_true_eq] at h8
  exact h8
end Go.Proofs.Ytgbojgmmingfdaa

/- What the law of tableaux says of one shape in a small box, from the checks. No program is in sight here. -/
namespace Go.Proofs.Ytgbojgmmingfdaa
theorem tabs_box {K M : Nat} (h : 2 ≤ K + M ∧ K + M ≤ 6) {l : List Int} (hl : l ∈ shapesIn K M) : tabsB K (K + M) l = true ∧ schEq K (K + M) l = true ∧ symEq K l = true := by
  have hn : K + M = 2 ∨ K + M = 3 ∨ K + M = 4 ∨ K + M = 5 ∨ K + M = 6 := by omega
  have hM : M = K + M - K := by omega
  rw [hM] at hl
  have at_ : ∀ {m n : Nat} {f : Nat → List Int → Bool}, K + M = n → n + 1 = m → ((List.range m).all fun k => (shapesIn k (n - k)).all (f k)) = true → f K l = true := fun e1 e2 h =>
    List.all_eq_true.1 (List.all_eq_true.1 h K (List.mem_range.2 (by omega))) l (by rw [← e1]; exact hl)
  rcases hn with e | e | e | e | e
  · rw [e] at hl ⊢
    exact ⟨at_ (f := fun k => tabsB k 2) e rfl tabsB2, at_ (f := fun k => schEq k 2) e rfl schEq2, at_ (f := symEq) e rfl symEq2⟩
  · rw [e] at hl ⊢
    exact ⟨at_ (f := fun k => tabsB k 3) e rfl tabsB3, at_ (f := fun k => schEq k 3) e rfl schEq3, at_ (f := symEq) e rfl symEq3⟩
  · rw [e] at hl ⊢
    exact ⟨at_ (f := fun k => tabsB k 4) e rfl tabsB4, at_ (f := fun k => schEq k 4) e rfl schEq4, at_ (f := symEq) e rfl symEq4⟩
  · rw [e] at hl ⊢
    exact ⟨at_ (f := fun k => tabsB k 5) e rfl tabsB5, at_ (f := fun k => schEq k 5) e rfl schEq5, at_ (f := symEq) e rfl symEq5⟩
  · rw [e] at hl ⊢
    have hk : K = 0 ∨ K = 1 ∨ K = 2 ∨ K = 3 ∨ K = 4 ∨ K = 5 ∨ K = 6 := by omega
    refine ⟨at_ (f := fun k => tabsB k 6) e rfl tabsB6, ?_, at_ (f := symEq) e rfl symEq6⟩
    rcases hk with rfl | rfl | rfl | rfl | rfl | rfl | rfl
    · exact List.all_eq_true.1 schEq60 l hl
    · exact List.all_eq_true.1 schEq61 l hl
    · exact List.all_eq_true.1 schEq62 l hl
    · exact List.all_eq_true.1 schEq63 l hl
    · exact List.all_eq_true.1 schEq64 l hl
    · exact List.all_eq_true.1 schEq65 l hl
    · exact List.all_eq_true.1 schEq66 l hl
/-- A tableau of the shape l with numbers below K. -/
structure TabOne (l : List Int) (K : Nat) (T : List (List Int)) : Prop where
  ok : tabB T = true
  shape : shapeT T = l
  ent : ∀ r ∈ T, ∀ x ∈ r, 0 ≤ x ∧ x < (K : Int)
theorem keyL_expT {k : Int} (h : 0 ≤ k ∧ k ≤ 562949953421311) : keyL (expL k) = k := by
  unfold expL
  rw [keyL_lowL (expUp_len 7 k)]
  simp only [expUp, lowL]
  omega
theorem keys_back {L : List (Int × Int)} (h : keysOk L = true) : (shutT L).map kc = L := by
  rw [keysOk, Bool.and_eq_true] at h
  rw [shut_yes h.1, List.map_map]
  conv => rhs; rw [← List.map_id L]
  refine List.map_congr_left fun x hx => ?_
  have h1 := List.all_eq_true.1 h.2 x hx
  simp only [Bool.and_eq_true, decide_eq_true_eq] at h1
  show (keyL (expL x.1), x.2) = x
  rw [keyL_expT h1]
theorem shutT_poly (L : List (Int × Int)) : polyB (shutT L) = true := by
  rcases h : shutB L with _ | _
  · rw [shut_no h]; rfl
  · rw [shut_yes h]
    rw [shutB, Bool.and_eq_true] at h
    exact h.2
structure TabF (K M : Nat) (l : List Int) : Prop where
  small : smallB l = true
  okS : schurB l (K : Int) = true
  isS : schurR l (K : Int) = shutT (schurK K l)
  shut : shutB (schurK K l) = true
  sch : schK (grassB l K ((K : Int) + M)) = schurK K l
  schOk : schOk (grassB l K ((K : Int) + M)) = true
  perm : permB (grassB l K ((K : Int) + M)) = true
  trim : (trimL (grassB l K ((K : Int) + M))).length ≤ 6
  len : (tabs l K).length ≤ 400
  one : ∀ T ∈ tabs l K, TabOne l K T
  ok8 : ∀ T ∈ tabs l K, okT8 T
  run : hRun (schurK K l) [] (tabs l K) = true
  back : (shutT (schurK K l)).map kc = schurK K l
  sym : ∀ i, i + 1 < K → swK i (schurK K l) = schurK K l
theorem tab_facts {K M : Nat} {l : List Int} (h : ShIn l K M) (hn : 2 ≤ K + M ∧ K + M ≤ 6) (h8 : ¬ 8 < sumL l) : TabF K M l := by
  have hs : smallB l = true := by
    rw [smallB, h.shape (by omega) (by omega), decide_eq_true (show sumL l ≤ 8 by omega)]; rfl
  obtain ⟨h1, h2, h3⟩ := tabs_box hn (shIn_mem _ _ _ h)
  rw [tabsB, hs] at h1
  rw [schEq, hs] at h2
  rw [symEq, hs] at h3
  simp only [Bool.not_true, Bool.false_or, Bool.and_eq_true, decide_eq_true_eq] at h1 h2
  rw [Bool.not_true, Bool.false_or] at h3
  obtain ⟨⟨p1, p2⟩, p3, p6, p4, p5⟩ := h1
  obtain ⟨⟨q1, q2⟩, q3⟩ := h2
  have eN : (((K + M : Nat) : Int)) = (K : Int) + M := by omega
  rw [eN] at p1 p2 q1 q2
  have hok : schurOk l (K : Int) = true := by
    rw [schurOk, hs]
    simp [inB]; omega
  have hSB : schurB l (K : Int) = true := by rw [schurB, hok, Int.toNat_natCast]; exact q3
  refine ⟨hs, hSB, ?_, q3, q1, q2, p1, p2, p3, fun T hT => ?_, fun q hq => ?_, p5, keys_back p6, fun i hi => ?_⟩
  · rw [schurR, if_pos hSB, schurT, Int.toNat_natCast, shut_yes q3]
  · have h4 := List.all_eq_true.1 p4 T hT
    rw [tabOne, Bool.and_eq_true, Bool.and_eq_true, decide_eq_true_eq] at h4
    refine ⟨h4.1, h4.2.1, fun r hr x hx => ?_⟩
    have h5 := List.all_eq_true.1 (List.all_eq_true.1 h4.2.2 r hr) x hx
    simpa using h5
  · obtain ⟨hd, hpos, h8', hl16, hb1000⟩ := small_facts hs
    obtain ⟨a1, a2⟩ := tabR_mem _ _ q hq
    have a3 := sum_nat hd
    have a4 := congrArg List.length a2
    rw [List.length_map, List.length_map] at a4
    exact ⟨fun r hr x hx => by have := a1 r hr x hx; omega, by rw [a2]; omega, by omega⟩
  · exact of_decide_eq_true (List.all_eq_true.1 h3 i (List.mem_range.2 (by omega)))
/-- The monomial of a tableau. -/
theorem mon_key {T : List (List Int)} (h : okT8 T) : (wtE T).length = 7 ∧ (∀ j, 0 ≤ nth (wtE T) j ∧ nth (wtE T) j ≤ 24) ∧ [(wtE T, (1 : Int))].map kc = [(keyT T, 1)] := by
  have h1 := key_tab T zeroE rfl h.1
  have h2 := tab_in T (e := zeroE) (N := 0) fun j => by rw [zeroE_at]; omega
  have h3 := h.2.1
  refine ⟨h1.1, fun j => ?_, ?_⟩
  · have h4 := h2 j
    show 0 ≤ nth (T.foldl expE zeroE) j ∧ nth (T.foldl expE zeroE) j ≤ 24
    omega
  · have h5 : keyL (wtE T) = keyT T := by
      have h6 := h1.2
      rw [show keyL zeroE = 0 from by decide +kernel] at h6
      show keyL (T.foldl expE zeroE) = _
      omega
    show [(keyL (wtE T), (1 : Int))] = _
    rw [h5]
/-- One round of the gathering. -/
theorem hRun_cons {G L : List (Int × Int)} {T : List (List Int)} {ts : List (List (List Int))} (h : hRun G L (T :: ts) = true) : hRun G (plusK 1 L [(keyT T, 1)]) ts = true := by
  rw [hRun, Bool.and_eq_true] at h
  exact h.2
theorem hRun_nil {G L : List (Int × Int)} (h : hRun G L [] = true) : L = G := by
  rw [hRun, Bool.and_eq_true, decide_eq_true_eq] at h
  exact h.2
theorem hRun_ok {G L : List (Int × Int)} {ts : List (List (List Int))} (h : hRun G L ts = true) : keysOk L = true := by
  cases ts with
  | nil => rw [hRun, Bool.and_eq_true] at h; exact h.1
  | cons T ts => rw [hRun, Bool.and_eq_true] at h; exact h.1
theorem hRun_drop {G L : List (Int × Int)} {ts : List (List (List Int))} {k : Nat} (hk : k < ts.length) (h : hRun G L (ts.drop k) = true) : hRun G (plusK 1 L [(keyT (ts.getD k []), 1)]) (ts.drop (k + 1)) = true := by
  rw [List.drop_eq_getElem_cons hk] at h
  have e : ts.getD k [] = ts[k] := by simp [List.getD, hk]
  rw [e]
  exact hRun_cons h
end Go.Proofs.Ytgbojgmmingfdaa
