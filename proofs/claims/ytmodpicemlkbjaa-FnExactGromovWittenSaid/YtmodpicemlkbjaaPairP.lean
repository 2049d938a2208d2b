/- All pairs of shapes in a box: few fillings, all in the box. No program is in sight here. -/
import Derived.Test.YtmodpicemlkbjaaShP
import Derived.Test.YtmodpicemlkbjaaBoxP
namespace Go.Proofs.Ytmodpicemlkbjaa

def pairB (k m : Nat) (a b : List Int) : Bool := (fun L : List (List Int) => decide (L.length ≤ 6) && (decide (k + m = 0) || L.all fun s => inBoxB (bare s) k ((k : Int) + m))) (layerC k m b (padL a k) none)
set_option maxRecDepth 100000 in
theorem pairs_ok : (List.range 8).all (fun k => (List.range (8 - k)).all fun m => (shapesIn k m).all fun a => (shapesIn k m).all fun b => pairB k m a b) = true := by decide +kernel
theorem pair_ok {K M : Nat} {a b : List Int} (h : K + M ≤ 7) (h1n : 1 ≤ K + M) (ha : a ∈ shapesIn K M) (hb : b ∈ shapesIn K M) : (layerC K M b (padL a K) none).length ≤ 6 ∧ ∀ s ∈ layerC K M b (padL a K) none, inBoxB (bare s) K ((K : Int) + M) = true := by
  have h1 := pairs_ok
  simp only [List.all_eq_true, List.mem_range] at h1
  have h2 := h1 K (by omega) M (by omega) a ha b hb
  simp only [pairB, Bool.and_eq_true, Bool.or_eq_true, decide_eq_true_eq, List.all_eq_true] at h2
  exact ⟨h2.1, h2.2.resolve_left (by omega)⟩
theorem SD.mem {l : List Int} {K M : Nat} (h : inBoxB l K ((K : Int) + M) = true) : l ∈ shapesIn K M := by
  obtain ⟨hb1, hb2, hb3, hb4⟩ := inBoxB_iff.1 h
  have hS := SD.box h
  refine shIn_mem K M l ⟨hS.len, fun j hj => ⟨(shapeAt_range hb2 hj).1, hS.top j⟩, fun j _ => hS.desc j⟩
/-- What a product in a box leaves. -/
theorem grB_box {a b : List Int} {k n : Int} (h : grOk a b k n = true) : (grB a b k n).length ≤ 6 ∧ Grows (grB a b k n) 6 ∧ ∀ x ∈ grB a b k n, inBoxB x.1 k n = true := by
  have h2 := h
  simp only [grOk, Bool.and_eq_true] at h2
  obtain ⟨K, M, rfl, rfl, hKM, hA⟩ := box_split h2.1
  have hn1 : 1 ≤ K + M := by
    have h3 := (boxB_iff.1 (inBoxB_iff.1 h2.1).1).1.1
    omega
  obtain ⟨h3, h4⟩ := pair_ok hKM hn1 (SD.mem h2.1) (SD.mem h2.2)
  rw [grB_yes h]
  obtain ⟨h5, _, h6⟩ := fillB_ok (a := a) (b := b) (rows := K) (most := M) hA.len h3
  refine ⟨h5, h6, fun x hx => ?_⟩
  rcases addAll_mem grows_nil _ hx with ⟨y, hy, _⟩ | ⟨s, hs, e⟩
  · cases hy
  · rw [e]; exact h4 s hs
end Go.Proofs.Ytmodpicemlkbjaa
