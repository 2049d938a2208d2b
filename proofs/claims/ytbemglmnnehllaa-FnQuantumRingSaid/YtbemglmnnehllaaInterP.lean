/- All pairs of shapes in a box: few fillings, all in the box. No program is in sight here. -/
import Derived.Test.YtbemglmnnehllaaShP
import Derived.Test.YtbemglmnnehllaaBoxP
namespace Go.Proofs.Ytbemglmnnehllaa

def pairB (k m : Nat) (a b : List Int) : Bool := (fun L : List (List Int) => decide (L.length ≤ 6) && (decide (k + m = 0) || L.all fun s => inBoxB (bare s) k ((k : Int) + m))) (layerC k m b (padL a k) none)
set_option maxRecDepth 100000 in
theorem pairs_ok : (List.range 8).all (fun k => (List.range (8 - k)).all fun m => (shapesIn k m).all fun a => (shapesIn k m).all fun b => pairB k m a b) = true := by decide +kernel
theorem pair_ok {K M : Nat} {a b : List Int} (h : K + M ≤ 7) (h1n : 1 ≤ K + M) (ha : a ∈ shapesIn K M) (hb : b ∈ shapesIn K M) : (layerC K M b (padL a K) none).length ≤ 6 ∧ ∀ s ∈ layerC K M b (padL a K) none, inBoxB (bare s) K ((K : Int) + M) = true := by
  have h1 := pairs_ok
  simp only [List.all_eq_true, List.mem_range] at h1
  have h2 := h1 K (by omega) M (by omega) a ha b hb
  simp only [pairB, Bool.and_eq_true, Bool.or_eq_true, decide_eq_true_eq, List.all_eq_true] at h2
  exact ⟨h2.1, h2.2.resolve_left (by omega)⟩
theorem SD.mem {l : List Int} {K M : Nat} (h : inBoxB l K ((K : Int) + M) = true) : l ∈ shapesIn K M := by
  obtain ⟨hb1, hb2, hb3, hb4⟩ := inBoxB_iff.1 h
  have hS := SD.box h
  refine shIn_mem K M l ⟨hS.len, fun j hj => ⟨(shapeAt_range hb2 hj).1, hS.top j⟩, fun j _ => hS.desc j⟩
/-- What a product in a box leaves. -/
theorem grB_box {a b : List Int} {k n : Int} (h : grOk a b k n = true) : (grB a b k n).length ≤ 6 ∧ Grows (grB a b k n) 6 ∧ ∀ x ∈ grB a b k n, inBoxB x.1 k n = true := by
  have h2 := h
  simp only [grOk, Bool.and_eq_true] at h2
  obtain ⟨K, M, rfl, rfl, hKM, hA⟩ := box_split h2.1
  have hn1 : 1 ≤ K + M := by
    have h3 := (boxB_iff.1 (inBoxB_iff.1 h2.1).1).1.1
    omega
  obtain ⟨h3, h4⟩ := pair_ok hKM hn1 (SD.mem h2.1) (SD.mem h2.2)
  rw [grB_yes h]
  obtain ⟨h5, _, h6⟩ := fillB_ok (a := a) (b := b) (rows := K) (most := M) hA.len h3
  refine ⟨h5, h6, fun x hx => ?_⟩
  rcases addAll_mem grows_nil _ hx with ⟨y, hy, _⟩ | ⟨s, hs, e⟩
  · cases hy
  · rw [e]; exact h4 s hs
end Go.Proofs.Ytbemglmnnehllaa

/- Numbers of intersections: sums of parts with weights, how great they grow. No program is in sight here. -/
namespace Go.Proofs.Ytbemglmnnehllaa

def total : List (List Int × Int) → Int
  | [] => 0
  | x :: r => x.2 + total r
theorem total_append : ∀ a b : List (List Int × Int), total (a ++ b) = total a + total b
  | [], b => by simp [total]
  | x :: a, b => by rw [List.cons_append, total, total, total_append a b]; omega
theorem total_mem {ps : List (List Int × Int)} (h : ∀ x ∈ ps, 1 ≤ x.2) : (ps.length : Int) ≤ total ps ∧ ∀ x ∈ ps, x.2 ≤ total ps := by
  induction ps with
  | nil => exact ⟨by simp [total], fun x hx => by cases hx⟩
  | cons y r ih =>
    obtain ⟨h1, h2⟩ := ih fun x hx => h x (List.mem_cons_of_mem _ hx)
    have h3 := h y List.mem_cons_self
    refine ⟨by simp only [List.length_cons, total]; omega, fun x hx => ?_⟩
    rcases List.mem_cons.1 hx with rfl | hx
    · simp only [total]; omega
    · have := h2 x hx; simp only [total]; omega
/-- Ascending, each some times, short, so many altogether at most. -/
structure Wt (ps : List (List Int × Int)) (T : Int) : Prop where
  srt : Srt ps
  pos : ∀ x ∈ ps, 1 ≤ x.2
  tot : total ps ≤ T
  short : ∀ x ∈ ps, x.1.length ≤ 16
theorem Wt.nil_ : Wt [] 0 := ⟨fun i j _ h => by simp at h, fun x h => (by cases h), Int.le_refl _, fun x h => (by cases h)⟩
theorem Wt.mono {ps : List (List Int × Int)} {T T' : Int} (h : Wt ps T) (hT : T ≤ T') : Wt ps T' := ⟨h.srt, h.pos, Int.le_trans h.tot hT, h.short⟩
theorem Wt.len {ps : List (List Int × Int)} {T : Int} (h : Wt ps T) : (ps.length : Int) ≤ T := Int.le_trans (total_mem h.pos).1 h.tot
theorem Wt.cnt {ps : List (List Int × Int)} {T : Int} (h : Wt ps T) : ∀ x ∈ ps, 1 ≤ x.2 ∧ x.2 ≤ T := fun x hx => ⟨h.pos x hx, Int.le_trans ((total_mem h.pos).2 x hx) h.tot⟩
theorem total_split {ps : List (List Int × Int)} (p : Nat) : total ps = total (ps.take p) + total (ps.drop p) := by rw [← total_append, List.take_append_drop]
theorem Wt.add {ps : List (List Int × Int)} {T : Int} (h : Wt ps T) {s : List Int} (hs : s.length ≤ 16) {n : Int} (hn : 1 ≤ n) : Wt (addP ps s n) (T + n) := by
  obtain ⟨p, hp⟩ := place_of ps h.srt s
  have hle := hp.le
  have ht := h.tot
  by_cases hf : p < ps.length ∧ (nthP ps p).1 = s
  · have hc := h.pos _ (nthP_mem hf.1)
    rw [addP_found (by omega) hp.lo hf.1 hf.2 (by omega)]
    refine ⟨place_set h.srt hp hf.1 hf.2, fun x hx => ?_, ?_, fun x hx => ?_⟩
    · rw [List.append_assoc, List.mem_append, List.mem_append, List.mem_singleton] at hx
      rcases hx with hx | rfl | hx
      · exact h.pos x (List.mem_of_mem_take hx)
      · simp only; omega
      · exact h.pos x (List.mem_of_mem_drop hx)
    · rw [total_append, total_append]
      rw [total_split p, nthP_cons_take hf.1] at ht
      simp only [total] at ht ⊢
      omega
    · rw [List.append_assoc, List.mem_append, List.mem_append, List.mem_singleton] at hx
      rcases hx with hx | rfl | hx
      · exact h.short x (List.mem_of_mem_take hx)
      · exact hs
      · exact h.short x (List.mem_of_mem_drop hx)
  · have hf2 : p < ps.length → (nthP ps p).1 ≠ s := fun h1 h2 => hf ⟨h1, h2⟩
    rw [addP_new (by omega) hp hf2]
    refine ⟨place_mid h.srt hp hf2, fun x hx => ?_, ?_, fun x hx => ?_⟩
    · rw [List.append_assoc, List.mem_append, List.mem_append, List.mem_singleton] at hx
      rcases hx with hx | rfl | hx
      · exact h.pos x (List.mem_of_mem_take hx)
      · exact hn
      · exact h.pos x (List.mem_of_mem_drop hx)
    · rw [total_append, total_append]
      rw [total_split p] at ht
      simp only [total]
      omega
    · rw [List.append_assoc, List.mem_append, List.mem_append, List.mem_singleton] at hx
      rcases hx with hx | rfl | hx
      · exact h.short x (List.mem_of_mem_take hx)
      · exact hs
      · exact h.short x (List.mem_of_mem_drop hx)
theorem Wt.all {ps : List (List Int × Int)} {T : Int} (h : Wt ps T) : ∀ (L : List (List Int)), (∀ s ∈ L, s.length ≤ 16) → Wt (addAll ps L) (T + L.length)
  | [], _ => by simpa [addAll] using h
  | s :: L, hl => by
    have hb : (bare s).length ≤ 16 := by unfold bare; rw [List.length_take]; have := hl s List.mem_cons_self; omega
    have := (h.add hb (n := 1) (Int.le_refl _)).all L fun t ht => hl t (List.mem_cons_of_mem _ ht)
    have e : addAll ps (s :: L) = addAll (addP ps (bare s) 1) L := rfl
    rw [e]
    refine this.mono ?_
    simp only [List.length_cons]
    omega
/-- A product in a box: six altogether. -/
theorem grB_wt (a b : List Int) (k n : Int) : Wt (grB a b k n) 6 := by
  rcases Bool.eq_false_or_eq_true (grOk a b k n) with h | h
  · have h2 := h
    simp only [grOk, Bool.and_eq_true] at h2
    obtain ⟨K, M, rfl, rfl, hKM, hA⟩ := box_split h2.1
    have hn1 : 1 ≤ K + M := by
      have h3 := (boxB_iff.1 (inBoxB_iff.1 h2.1).1).1.1
      omega
    obtain ⟨h3, _⟩ := pair_ok hKM hn1 (SD.mem h2.1) (SD.mem h2.2)
    rw [grB_yes h]
    have h4 := Wt.nil_.all (layerC K M b (padL a K) none) fun s hs => by
      have := layerC_rows b (padL a K) none K (padL_len hA.len) s hs
      omega
    exact h4.mono (by omega)
  · rw [grB_no h]; exact Wt.nil_.mono (by omega)
/-- One part's product added, so many times each. -/
def addG (c : Int) (acc l : List (List Int × Int)) : List (List Int × Int) := l.foldl (fun a x => addP a x.1 (c * x.2)) acc
def stepN (k n : Int) (s : List Int) (now : List (List Int × Int)) : List (List Int × Int) := now.foldl (fun a p => addG p.2 a (grB p.1 s k n)) []
def interL (k n : Int) (shapes : List (List Int)) : List (List Int × Int) := shapes.foldl (fun now s => stepN k n s now) [([], 1)]
theorem Wt.addG {c : Int} (hc : 1 ≤ c) : ∀ (l : List (List Int × Int)) {acc : List (List Int × Int)} {T : Int}, Wt acc T → (∀ x ∈ l, 1 ≤ x.2 ∧ x.1.length ≤ 16) → Wt (addG c acc l) (T + c * total l)
  | [], acc, T, h, _ => h.mono (by simp [total])
  | x :: l, acc, T, h, hl => by
    obtain ⟨h1, h2⟩ := hl x List.mem_cons_self
    have hcx : 1 ≤ c * x.2 := by have := Int.mul_le_mul hc h1 (by omega) (by omega); omega
    have h3 := Wt.addG hc l (h.add h2 hcx) fun y hy => hl y (List.mem_cons_of_mem _ hy)
    refine h3.mono ?_
    rw [total, Int.mul_add]
    omega
theorem Wt.steps {k n : Int} {s : List Int} : ∀ (now : List (List Int × Int)) {acc : List (List Int × Int)} {T : Int}, Wt acc T → (∀ x ∈ now, 1 ≤ x.2) → Wt (now.foldl (fun a p => Go.Proofs.Ytbemglmnnehllaa.addG p.2 a (grB p.1 s k n)) acc) (T + 6 * total now)
  | [], acc, T, h, _ => h.mono (by simp [total])
  | p :: now, acc, T, h, hp => by
    have h1 := hp p List.mem_cons_self
    have hg := grB_wt p.1 s k n
    have h2 := Wt.addG h1 (grB p.1 s k n) h fun x hx => ⟨hg.pos x hx, hg.short x hx⟩
    have h3 := Wt.steps (k := k) (n := n) (s := s) now h2 fun x hx => hp x (List.mem_cons_of_mem _ hx)
    refine h3.mono ?_
    have h4 : p.2 * total (grB p.1 s k n) ≤ p.2 * 6 := Int.mul_le_mul_of_nonneg_left hg.tot (by omega)
    rw [total, Int.mul_add]
    omega
theorem Wt.step {k n : Int} {s : List Int} {now : List (List Int × Int)} {T : Int} (h : Wt now T) : Wt (stepN k n s now) (6 * T) := by
  have h1 := Wt.steps (k := k) (n := n) (s := s) now Wt.nil_ h.pos
  refine h1.mono ?_
  have := h.tot
  omega
end Go.Proofs.Ytbemglmnnehllaa
