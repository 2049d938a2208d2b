/- All pairs of shapes in a box: few fillings, all in the box. No program is in sight here. -/
import Derived.Test.YtmodpicemlkbjaaShP
import Derived.Test.YtmodpicemlkbjaaBoxP
import Derived.Test.YtmodpicemlkbjaaWords
namespace Go.Proofs.Ytmodpicemlkbjaa

def pairB (k m : Nat) (a b : List Int) : Bool := (fun L : List (List Int) => decide (L.length ≤ 6) && (decide (k + m = 0) || L.all fun s => inBoxB (bare s) k ((k : Int) + m))) (layerC k m b (padL a k) none)
set_option maxRecDepth 100000 in
theorem pairs_ok : (List.range 8).all (fun k => (List.range (8 - k)).all fun m => (shapesIn k m).all fun a => (shapesIn k m).all fun b => pairB k m a b) = true := by decide +kernel
theorem pair_ok {K M : Nat} {a b : List Int} (h : K + M ≤ 7) (h1n : 1 ≤ K + M) (ha : a ∈ shapesIn K M) (hb : b ∈ shapesIn K M) : (layerC K M b (padL a K) none).length ≤ 6 ∧ ∀ s ∈ layerC K M b (padL a K) none, inBoxB (bare s) K ((K : Int) + M) = true := by
  have h1 := pairs_ok
  simp only [List.all_eq_true, List.mem_range] at h1
  have h2 := h1 K (by omega) M (by omega) a ha b hb
  simp only [pairB, Bool.and_eq_true, Bool.or_eq_true, decide_eq_true_eq, List.all_eq_true] at h2
  exact ⟨h2.1, h2.2.resolve_left (by omega)⟩
theorem SD.mem {l : List Int} {K M : Nat} (h : inBoxB l K ((K : Int) + M) = true) : l ∈ shapesIn K M := by
  obtain ⟨hb1, hb2, hb3, hb4⟩ := inBoxB_iff.1 h
  have hS := SD.box h
  refine shIn_mem K M l ⟨hS.len, fun j hj => ⟨(shapeAt_range hb2 hj).1, hS.top j⟩, fun j _ => hS.desc j⟩
/-- What a product in a box leaves. -/
theorem grB_box {a b : List Int} {k n : Int} (h : grOk a b k n = true) : (grB a b k n).length ≤ 6 ∧ Grows (grB a b k n) 6 ∧ ∀ x ∈ grB a b k n, inBoxB x.1 k n = true := by
  have h2 := h
  simp only [grOk, Bool.and_eq_true] at h2
  obtain ⟨K, M, rfl, rfl, hKM, hA⟩ := box_split h2.1
  have hn1 : 1 ≤ K + M := by
    have h3 := (boxB_iff.1 (inBoxB_iff.1 h2.1).1).1.1
    omega
  obtain ⟨h3, h4⟩ := pair_ok hKM hn1 (SD.mem h2.1) (SD.mem h2.2)
  rw [grB_yes h]
  obtain ⟨h5, _, h6⟩ := fillB_ok (a := a) (b := b) (rows := K) (most := M) hA.len h3
  refine ⟨h5, h6, fun x hx => ?_⟩
  rcases addAll_mem grows_nil _ hx with ⟨y, hy, _⟩ | ⟨s, hs, e⟩
  · cases hy
  · rw [e]; exact h4 s hs
end Go.Proofs.Ytmodpicemlkbjaa

/- Numbers of intersections: sums of parts with weights, how great they grow. No program is in sight here. -/
namespace Go.Proofs.Ytmodpicemlkbjaa

def total : List (List Int × Int) → Int
  | [] => 0
  | x :: r => x.2 + total r
theorem total_append : ∀ a b : List (List Int × Int), total (a ++ b) = total a + total b
  | [], b => by simp [total]
  | x :: a, b => by rw [List.cons_append, total, total, total_append a b]; omega
theorem total_mem {ps : List (List Int × Int)} (h : ∀ x ∈ ps, 1 ≤ x.2) : (ps.length : Int) ≤ total ps ∧ ∀ x ∈ ps, x.2 ≤ total ps := by
  induction ps with
  | nil => exact ⟨by simp [total], fun x hx => by cases hx⟩
  | cons y r ih =>
    obtain ⟨h1, h2⟩ := ih fun x hx => h x (List.mem_cons_of_mem _ hx)
    have h3 := h y List.mem_cons_self
    refine ⟨by simp only [List.length_cons, total]; omega, fun x hx => ?_⟩
    rcases List.mem_cons.1 hx with rfl | hx
    · simp only [total]; omega
    · have := h2 x hx; simp only [total]; omega
/-- Ascending, each some times, short, so many altogether at most. -/
structure Wt (ps : List (List Int × Int)) (T : Int) : Prop where
  srt : Srt ps
  pos : ∀ x ∈ ps, 1 ≤ x.2
  tot : total ps ≤ T
  short : ∀ x ∈ ps, x.1.length ≤ 16
theorem Wt.nil_ : Wt [] 0 := ⟨fun i j _ h => by simp at h, fun x h => (by cases h), Int.le_refl _, fun x h => (by cases h)⟩
theorem Wt.mono {ps : List (List Int × Int)} {T T' : Int} (h : Wt ps T) (hT : T ≤ T') : Wt ps T' := ⟨h.srt, h.pos, Int.le_trans h.tot hT, h.short⟩
theorem Wt.len {ps : List (List Int × Int)} {T : Int} (h : Wt ps T) : (ps.length : Int) ≤ T := Int.le_trans (total_mem h.pos).1 h.tot
theorem Wt.cnt {ps : List (List Int × Int)} {T : Int} (h : Wt ps T) : ∀ x ∈ ps, 1 ≤ x.2 ∧ x.2 ≤ T := fun x hx => ⟨h.pos x hx, Int.le_trans ((total_mem h.pos).2 x hx) h.tot⟩
theorem total_split {ps : List (List Int × Int)} (p : Nat) : total ps = total (ps.take p) + total (ps.drop p) := by rw [← total_append, List.take_append_drop]
theorem Wt.add {ps : List (List Int × Int)} {T : Int} (h : Wt ps T) {s : List Int} (hs : s.length ≤ 16) {n : Int} (hn : 1 ≤ n) : Wt (addP ps s n) (T + n) := by
  obtain ⟨p, hp⟩ := place_of ps h.srt s
  have hle := hp.le
  have ht := h.tot
  by_cases hf : p < ps.length ∧ (nthP ps p).1 = s
  · have hc := h.pos _ (nthP_mem hf.1)
    rw [addP_found (by omega) hp.lo hf.1 hf.2 (by omega)]
    refine ⟨place_set h.srt hp hf.1 hf.2, fun x hx => ?_, ?_, fun x hx => ?_⟩
    · rw [List.append_assoc, List.mem_append, List.mem_append, List.mem_singleton] at hx
      rcases hx with hx | rfl | hx
      · exact h.pos x (List.mem_of_mem_take hx)
      · simp only; omega
      · exact h.pos x (List.mem_of_mem_drop hx)
    · rw [total_append, total_append]
      rw [total_split p, nthP_cons_take hf.1] at ht
      simp only [total] at ht ⊢
      omega
    · rw [List.append_assoc, List.mem_append, List.mem_append, List.mem_singleton] at hx
      rcases hx with hx | rfl | hx
      · exact h.short x (List.mem_of_mem_take hx)
      · exact hs
      · exact h.short x (List.mem_of_mem_drop hx)
  · have hf2 : p < ps.length → (nthP ps p).1 ≠ s := fun h1 h2 => hf ⟨h1, h2⟩
    rw [addP_new (by omega) hp hf2]
    refine ⟨place_mid h.srt hp hf2, fun x hx => ?_, ?_, fun x hx => ?_⟩
    · rw [List.append_assoc, List.mem_append, List.mem_append, List.mem_singleton] at hx
      rcases hx with hx | rfl | hx
      · exact h.pos x (List.mem_of_mem_take hx)
      · exact hn
      · exact h.pos x (List.mem_of_mem_drop hx)
    · rw [total_append, total_append]
      rw [total_split p] at ht
      simp only [total]
      omega
    · rw [List.append_assoc, List.mem_append, List.mem_append, List.mem_singleton] at hx
      rcases hx with hx | rfl | hx
      · exact h.short x (List.mem_of_mem_take hx)
      · exact hs
      · exact h.short x (List.mem_of_mem_drop hx)
theorem Wt.all {ps : List (List Int × Int)} {T : Int} (h : Wt ps T) : ∀ (L : List (List Int)), (∀ s ∈ L, s.length ≤ 16) → Wt (addAll ps L) (T + L.length)
  | [], _ => by simpa [addAll] using h
  | s :: L, hl => by
    have hb : (bare s).length ≤ 16 := by unfold bare; rw [List.length_take]; have := hl s List.mem_cons_self; omega
    have := (h.add hb (n := 1) (Int.le_refl _)).all L fun t ht => hl t (List.mem_cons_of_mem _ ht)
    have e : addAll ps (s :: L) = addAll (addP ps (bare s) 1) L := rfl
    rw [e]
    refine this.mono ?_
    simp only [List.length_cons]
    omega
/-- A product in a box: six altogether. -/
theorem grB_wt (a b : List Int) (k n : Int) : Wt (grB a b k n) 6 := by
  rcases Bool.eq_false_or_eq_true (grOk a b k n) with h | h
  · have h2 := h
    simp only [grOk, Bool.and_eq_true] at h2
    obtain ⟨K, M, rfl, rfl, hKM, hA⟩ := box_split h2.1
    have hn1 : 1 ≤ K + M := by
      have h3 := (boxB_iff.1 (inBoxB_iff.1 h2.1).1).1.1
      omega
    obtain ⟨h3, _⟩ := pair_ok hKM hn1 (SD.mem h2.1) (SD.mem h2.2)
    rw [grB_yes h]
    have h4 := Wt.nil_.all (layerC K M b (padL a K) none) fun s hs => by
      have := layerC_rows b (padL a K) none K (padL_len hA.len) s hs
      omega
    exact h4.mono (by omega)
  · rw [grB_no h]; exact Wt.nil_.mono (by omega)
/-- One part's product added, so many times each. -/
def addG (c : Int) (acc l : List (List Int × Int)) : List (List Int × Int) := l.foldl (fun a x => addP a x.1 (c * x.2)) acc
def stepN (k n : Int) (s : List Int) (now : List (List Int × Int)) : List (List Int × Int) := now.foldl (fun a p => addG p.2 a (grB p.1 s k n)) []
def interL (k n : Int) (shapes : List (List Int)) : List (List Int × Int) := shapes.foldl (fun now s => stepN k n s now) [([], 1)]
theorem Wt.addG {c : Int} (hc : 1 ≤ c) : ∀ (l : List (List Int × Int)) {acc : List (List Int × Int)} {T : Int}, Wt acc T → (∀ x ∈ l, 1 ≤ x.2 ∧ x.1.length ≤ 16) → Wt (addG c acc l) (T + c * total l)
  | [], acc, T, h, _ => h.mono (by simp [total])
  | x :: l, acc, T, h, hl => by
    obtain ⟨h1, h2⟩ := hl x List.mem_cons_self
    have hcx : 1 ≤ c * x.2 := by have := Int.mul_le_mul hc h1 (by omega) (by omega); omega
    have h3 := Wt.addG hc l (h.add h2 hcx) fun y hy => hl y (List.mem_cons_of_mem _ hy)
    refine h3.mono ?_
    rw [total, Int.mul_add]
    omega
theorem Wt.steps {k n : Int} {s : List Int} : ∀ (now : List (List Int × Int)) {acc : List (List Int × Int)} {T : Int}, Wt acc T → (∀ x ∈ now, 1 ≤ x.2) → Wt (now.foldl (fun a p => Go.Proofs.Ytmodpicemlkbjaa.addG p.2 a (grB p.1 s k n)) acc) (T + 6 * total now)
  | [], acc, T, h, _ => h.mono (by simp [total])
  | p :: now, acc, T, h, hp => by
    have h1 := hp p List.mem_cons_self
    have hg := grB_wt p.1 s k n
    have h2 := Wt.addG h1 (grB p.1 s k n) h fun x hx => ⟨hg.pos x hx, hg.short x hx⟩
    have h3 := Wt.steps (k := k) (n := n) (s := s) now h2 fun x hx => hp x (List.mem_cons_of_mem _ hx)
    refine h3.mono ?_
    have h4 : p.2 * total (grB p.1 s k n) ≤ p.2 * 6 := Int.mul_le_mul_of_nonneg_left hg.tot (by omega)
    rw [total, Int.mul_add]
    omega
theorem Wt.step {k n : Int} {s : List Int} {now : List (List Int × Int)} {T : Int} (h : Wt now T) : Wt (stepN k n s now) (6 * T) := by
  have h1 := Wt.steps (k := k) (n := n) (s := s) now Wt.nil_ h.pos
  refine h1.mono ?_
  have := h.tot
  omega
end Go.Proofs.Ytmodpicemlkbjaa

/- Numbers of intersections, step by step: what the loops hold. No program is in sight here. -/
namespace Go.Proofs.Ytmodpicemlkbjaa

theorem addG_succ {c : Int} {acc l : List (List Int × Int)} {j : Nat} (h : j < l.length) : addG c acc (l.take (j + 1)) = addP (addG c acc (l.take j)) (nthP l j).1 (c * (nthP l j).2) := by
  rw [nthP_take_succ h]; simp [addG]
theorem addG_all {c : Int} {acc l : List (List Int × Int)} : addG c acc (l.take l.length) = addG c acc l := by rw [List.take_length]
def stepTo (k n : Int) (s : List Int) (now : List (List Int × Int)) (j : Nat) : List (List Int × Int) := (now.take j).foldl (fun a p => addG p.2 a (grB p.1 s k n)) []
theorem stepTo_zero {k n : Int} {s : List Int} {now : List (List Int × Int)} : stepTo k n s now 0 = [] := rfl
theorem stepTo_succ {k n : Int} {s : List Int} {now : List (List Int × Int)} {j : Nat} (h : j < now.length) : stepTo k n s now (j + 1) = addG (nthP now j).2 (stepTo k n s now j) (grB (nthP now j).1 s k n) := by
  unfold stepTo
  rw [nthP_take_succ h]; simp
theorem stepTo_all {k n : Int} {s : List Int} {now : List (List Int × Int)} : stepTo k n s now now.length = stepN k n s now := by unfold stepTo stepN; rw [List.take_length]
def interTo (k n : Int) (shapes : List (List Int)) (i : Nat) : List (List Int × Int) := interL k n (shapes.take i)
theorem interTo_zero {k n : Int} {shapes : List (List Int)} : interTo k n shapes 0 = [([], 1)] := rfl
theorem interTo_succ {k n : Int} {shapes : List (List Int)} {i : Nat} (h : i < shapes.length) : interTo k n shapes (i + 1) = stepN k n (nthL shapes i) (interTo k n shapes i) := by
  have e : shapes.take (i + 1) = shapes.take i ++ [nthL shapes i] := by
    rw [List.take_add_one, List.getElem?_eq_getElem h]
    simp [nthL, List.getD, List.getElem?_eq_getElem h]
  unfold interTo interL
  rw [e]; simp
theorem interTo_all {k n : Int} {shapes : List (List Int)} : interTo k n shapes shapes.length = interL k n shapes := by unfold interTo; rw [List.take_length]
def six : Nat → Int
  | 0 => 1
  | i + 1 => 6 * six i
theorem Wt.one_ : Wt [([], (1 : Int))] 1 := by
  have := Wt.nil_.add (s := []) (by simp) (n := 1) (Int.le_refl _)
  simpa [addP, addUp] using this
theorem inter_wt (k n : Int) (shapes : List (List Int)) : ∀ i, i ≤ shapes.length → Wt (interTo k n shapes i) (six i)
  | 0, _ => Wt.one_
  | i + 1, h => by rw [interTo_succ (by omega)]; exact (inter_wt k n shapes i (by omega)).step
theorem six_pos : ∀ i, 1 ≤ six i
  | 0 => Int.le_refl _
  | i + 1 => by have := six_pos i; simp only [six]; omega
theorem six_mono {i j : Nat} (h : i ≤ j) : six i ≤ six j := by
  induction j with
  | zero => obtain rfl : i = 0 := by omega
            exact Int.le_refl _
  | succ j ih =>
    rcases Nat.lt_or_ge j i with h1 | h1
    · obtain rfl : i = j + 1 := by omega
      exact Int.le_refl _
    · have := ih h1; have := six_pos j; simp only [six]; omega
theorem six_small {i : Nat} (h : i ≤ 13) : six i ≤ 13060694016 := Int.le_trans (six_mono h) (by decide)
/-- What a step so far has: within its bound. -/
theorem stepTo_wt {k n : Int} {s : List Int} {now : List (List Int × Int)} {T : Int} (h : Wt now T) (hT : 0 ≤ T) : ∀ j, j ≤ now.length → Wt (stepTo k n s now j) (6 * T) := by
  intro j hj
  have h1 := Wt.steps (k := k) (n := n) (s := s) (now.take j) Wt.nil_ fun x hx => h.pos x (List.mem_of_mem_take hx)
  refine Wt.mono h1 ?_
  have h2 := total_split (ps := now) j
  have h3 : 0 ≤ total (now.drop j) := by
    have := (total_mem (ps := now.drop j) fun x hx => h.pos x (List.mem_of_mem_drop hx)).1
    omega
  have := h.tot
  omega
theorem addP_shapesN {ps : List (List Int × Int)} {s : List Int} {n : Int} (hs : Srt ps) (hc : ∀ x ∈ ps, 1 ≤ x.2) (hn : 1 ≤ n) {x : List Int × Int} (hx : x ∈ addP ps s n) : x.1 = s ∨ ∃ y ∈ ps, y.1 = x.1 := by
  obtain ⟨p, hp⟩ := place_of ps hs s
  by_cases hf : p < ps.length ∧ (nthP ps p).1 = s
  · rw [addP_found (by omega) hp.lo hf.1 hf.2 (by have := hc _ (nthP_mem hf.1); omega)] at hx
    rw [List.append_assoc, List.mem_append, List.mem_append, List.mem_singleton] at hx
    rcases hx with hx | rfl | hx
    · exact .inr ⟨x, List.mem_of_mem_take hx, rfl⟩
    · exact .inl rfl
    · exact .inr ⟨x, List.mem_of_mem_drop hx, rfl⟩
  · have hf2 : p < ps.length → (nthP ps p).1 ≠ s := fun h1 h2 => hf ⟨h1, h2⟩
    rw [addP_new (by omega) hp hf2] at hx
    rw [List.append_assoc, List.mem_append, List.mem_append, List.mem_singleton] at hx
    rcases hx with hx | rfl | hx
    · exact .inr ⟨x, List.mem_of_mem_take hx, rfl⟩
    · exact .inl rfl
    · exact .inr ⟨x, List.mem_of_mem_drop hx, rfl⟩
def InBox (k n : Int) (ps : List (List Int × Int)) : Prop := ∀ x ∈ ps, inBoxB x.1 k n = true
theorem InBox.addG {k n c : Int} (hc : 1 ≤ c) : ∀ (l : List (List Int × Int)) {acc : List (List Int × Int)} {T : Int}, Wt acc T → InBox k n acc → InBox k n l → (∀ x ∈ l, 1 ≤ x.2 ∧ x.1.length ≤ 16) → InBox k n (addG c acc l)
  | [], acc, T, _, h, _, _ => h
  | x :: l, acc, T, hw, h, hl, hx => by
    obtain ⟨h1, h2⟩ := hx x List.mem_cons_self
    have hcx : 1 ≤ c * x.2 := by have := Int.mul_le_mul hc h1 (by omega) (by omega); omega
    refine InBox.addG hc l (hw.add h2 hcx) (fun y hy => ?_) (fun y hy => hl y (List.mem_cons_of_mem _ hy)) fun y hy => hx y (List.mem_cons_of_mem _ hy)
    rcases addP_shapesN hw.srt hw.pos hcx hy with e | ⟨z, hz, e⟩
    · rw [e]; exact hl x List.mem_cons_self
    · rw [← e]; exact h z hz
theorem grB_inBox (a b : List Int) (k n : Int) : InBox k n (grB a b k n) := by
  rcases Bool.eq_false_or_eq_true (grOk a b k n) with h | h
  · exact (grB_box h).2.2
  · rw [grB_no h]; intro x hx; cases hx
theorem InBox.steps {k n : Int} {s : List Int} : ∀ (now : List (List Int × Int)) {acc : List (List Int × Int)} {T : Int}, Wt acc T → InBox k n acc → (∀ x ∈ now, 1 ≤ x.2) → InBox k n (now.foldl (fun a p => Go.Proofs.Ytmodpicemlkbjaa.addG p.2 a (grB p.1 s k n)) acc)
  | [], acc, T, _, h, _ => h
  | p :: now, acc, T, hw, h, hp => by
    have h1 := hp p List.mem_cons_self
    have hg := grB_wt p.1 s k n
    have hx : ∀ x ∈ grB p.1 s k n, 1 ≤ x.2 ∧ x.1.length ≤ 16 := fun x hx => ⟨hg.pos x hx, hg.short x hx⟩
    exact InBox.steps now (Wt.addG h1 (grB p.1 s k n) hw hx) (InBox.addG h1 (grB p.1 s k n) hw h (grB_inBox _ _ _ _) hx) fun x hx => hp x (List.mem_cons_of_mem _ hx)
theorem inter_box {k n : Int} (shapes : List (List Int)) (hb : boxB k n = true) : ∀ i, i ≤ shapes.length → InBox k n (interTo k n shapes i)
  | 0, _ => by
    intro x hx
    rw [interTo_zero, List.mem_singleton] at hx
    rw [hx]
    have h1 := boxB_iff.1 hb
    exact inBoxB_iff.2 ⟨hb, by decide, by simp; omega, by simp [nth, List.getD]; omega⟩
  | i + 1, h => by
    rw [interTo_succ (by omega)]
    exact InBox.steps _ Wt.nil_ (fun x hx => by cases hx) (inter_wt k n shapes i (by omega)).pos
end Go.Proofs.Ytmodpicemlkbjaa
