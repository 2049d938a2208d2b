/- Quantum products with a row: what the program and the reference compute. No program is in sight here. -/
import Derived.Test.YtmodpicemlkbjaaPlain
namespace Go.Proofs.Ytmodpicemlkbjaa

def key0 (x : List Int × Int) : List Int × Int := (0 :: x.1, 1)
def stepQ (c s : List Int) (K r : Nat) : Bool := decide (nth c r < nth s r) && (decide (r = K - 1) || decide (nth s (r + 1) - 1 ≤ nth c r))
def fitQTo (c s : List Int) (d : Int) (K m : Nat) : Bool := (sumL c == sumL s + d) && allB (stepQ c s K) m
theorem fitQTo_zero (c s : List Int) (d : Int) (K : Nat) : fitQTo c s d K 0 = (sumL c == sumL s + d) := by simp [fitQTo, allB]
theorem fitQTo_succ (c s : List Int) (d : Int) (K m : Nat) : fitQTo c s d K (m + 1) = (fitQTo c s d K m && stepQ c s K m) := by simp [fitQTo, allB_succ, Bool.and_assoc]
/-- The shapes with power 1. -/
def qpTo (ls : List (List Int)) (s : List Int) (d : Int) (K : Nat) : Nat → List (List Int × Int)
  | 0 => []
  | j + 1 => if fitQTo (nthL ls j) s d K K then qpTo ls s d K j ++ [(1 :: nthL ls j, 1)] else qpTo ls s d K j
theorem qpTo_yes {ls : List (List Int)} {s : List Int} {d : Int} {K j : Nat} (h : fitQTo (nthL ls j) s d K K = true) : qpTo ls s d K (j + 1) = qpTo ls s d K j ++ [(1 :: nthL ls j, 1)] := by rw [qpTo, if_pos h]
theorem qpTo_no {ls : List (List Int)} {s : List Int} {d : Int} {K j : Nat} (h : fitQTo (nthL ls j) s d K K = false) : qpTo ls s d K (j + 1) = qpTo ls s d K j := by rw [qpTo, if_neg (by rw [h]; simp)]
theorem qpTo_len (ls : List (List Int)) (s : List Int) (d : Int) (K j : Nat) : (qpTo ls s d K j).length ≤ j := by
  induction j with
  | zero => exact Nat.le_refl _
  | succ j ih =>
    unfold qpTo
    split
    · simp; omega
    · omega
theorem qpTo_mem {ls : List (List Int)} {s : List Int} {d : Int} {K j : Nat} {x : List Int × Int} (h : x ∈ qpTo ls s d K j) : ∃ i, i < j ∧ x = (1 :: nthL ls i, 1) := by
  induction j with
  | zero => cases h
  | succ j ih =>
    unfold qpTo at h
    split at h
    · rw [List.mem_append] at h
      rcases h with h | h
      · obtain ⟨i, h1, h2⟩ := ih h; exact ⟨i, by omega, h2⟩
      · simp at h; exact ⟨j, by omega, h⟩
    · obtain ⟨i, h1, h2⟩ := ih h; exact ⟨i, by omega, h2⟩
def qpieL (s : List Int) (K M : Nat) (p : Int) (j : Nat) : List (List Int × Int) := (pieriB s K ((K : Int) + M) p).map key0 ++ qpTo (shapesIn K M) s (p - ((K : Int) + M)) K j
def qpieOk (s : List Int) (k n p : Int) : Bool := pieriOk s k n p && decide (k ≠ 0)
/-- What QuantumPieri gives. -/
def qpieB (s : List Int) (k n p : Int) : List (List Int × Int) := if qpieOk s k n p then qpieL s k.toNat (n - k).toNat p (shapesIn k.toNat (n - k).toNat).length else []
theorem qpieB_no {s : List Int} {k n p : Int} (h : qpieOk s k n p = false) : qpieB s k n p = [] := by simp [qpieB, h]
theorem qpieB_yes {s : List Int} {K M : Nat} {p : Int} (h : qpieOk s K ((K : Int) + M) p = true) : qpieB s K ((K : Int) + M) p = qpieL s K M p (shapesIn K M).length := by
  have e : ((K : Int) + M - K).toNat = M := by omega
  simp [qpieB, h, e]
theorem key0_keyed (ps : List (List Int × Int)) : Keyed (ps.map key0) := fun x hx => by
  obtain ⟨y, _, rfl⟩ := List.mem_map.1 hx
  simp [key0]
theorem qpTo_keyed (ls : List (List Int)) (s : List Int) (d : Int) (K j : Nat) : Keyed (qpTo ls s d K j) := fun x hx => by
  obtain ⟨i, _, rfl⟩ := qpTo_mem hx
  simp
theorem pieri_srt {k m : Nat} (h : k + m ≤ 7) (s : List Int) (p : Int) (mm : Nat) : ∀ j, j ≤ (shapesIn k m).length → Srt (pieriTo (shapesIn k m) s p mm j)
  | 0, _ => fun i j _ hj => by simp [pieriTo] at hj
  | j + 1, hj => by
    have ih := pieri_srt h s p mm j (by omega)
    unfold pieriTo
    split
    · have := srt_mid (n := 1) (ys := []) ih (fun i j _ hj => by simp at hj) (s := nthL (shapesIn k m) j) (fun x hx => by
        obtain ⟨i, hi, rfl⟩ := pieriTo_mem hx
        exact box_lt h hi (by omega)) (fun y hy => by cases hy)
      simpa using this
    · exact ih
/-- To add the next of an ascending list with power 0. -/
theorem add_key0 {ps : List (List Int × Int)} (hs : Srt ps) {i : Nat} (hi : i < ps.length) : addP ((ps.take i).map key0) (0 :: (nthP ps i).1) 1 = (ps.take (i + 1)).map key0 := by
  rw [addP_end (by omega) fun x hx => ?_]
  · rw [nthP_take_succ hi]; simp [key0]
  · obtain ⟨y, hy, rfl⟩ := List.mem_map.1 hx
    obtain ⟨j, h1, h2, rfl⟩ := mem_take_nthP hy
    show lexLt (0 :: (nthP ps j).1) _ = true
    rw [lex_cons_eq]
    exact hs j i h1 hi
theorem add_key1 {K M : Nat} (h : K + M ≤ 7) {s : List Int} {d : Int} {L : List (List Int × Int)} {j : Nat} (hj : j < (shapesIn K M).length) :
    addP (L.map key0 ++ qpTo (shapesIn K M) s d K j) (1 :: nthL (shapesIn K M) j) 1 = L.map key0 ++ qpTo (shapesIn K M) s d K j ++ [(1 :: nthL (shapesIn K M) j, 1)] := by
  refine addP_end (by omega) fun x hx => ?_
  rcases List.mem_append.1 hx with hx | hx
  · obtain ⟨y, hy, rfl⟩ := List.mem_map.1 hx
    exact lex_cons_lt _ _ (by decide)
  · obtain ⟨i, hi, rfl⟩ := qpTo_mem hx
    show lexLt (1 :: nthL (shapesIn K M) i) _ = true
    rw [lex_cons_eq]
    exact box_lt h hi hj
end Go.Proofs.Ytmodpicemlkbjaa
