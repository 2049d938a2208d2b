/- Key polynomials: the sorting of the exponents, and what the program makes of them, in plain words. -/
import Derived.Test.YtgbojgmmingfdaaExch
import Derived.BigRegion
import Derived.Deep.DeepCutAuto
import Derived.Deep.CutRange
namespace Go.Proofs.Ytgbojgmmingfdaa

/-- Two that stand one beside the other exchanged. -/
def swA : Nat → List Int → List Int
  | 0, a :: b :: r => b :: a :: r
  | j + 1, x :: r => x :: swA j r
  | _, l => l
theorem swapL_swA : ∀ (j : Nat) (l : List Int), j + 1 < l.length → swapL l j (j + 1) = swA j l
  | _, [], h => by simp at h
  | 0, [a], h => by simp at h
  | 0, a :: b :: r, _ => rfl
  | j + 1, x :: r, h => by
    have h1 : j + 1 < r.length := by simpa using h
    rw [swA, ← swapL_swA j r h1]
    rfl
def upC (x : Int) (l : List Int) : Nat := (l.filter fun y => decide (x < y)).length
def invL : List Int → Nat
  | [] => 0
  | x :: r => upC x r + invL r
theorem swA_perm : ∀ (j : Nat) (l : List Int), (swA j l).Perm l
  | 0, [] => List.Perm.refl _
  | 0, [a] => List.Perm.refl _
  | 0, a :: b :: r => List.Perm.swap a b r
  | j + 1, [] => List.Perm.refl _
  | j + 1, x :: r => (swA_perm j r).cons x
theorem upC_perm {x : Int} {a b : List Int} (h : a.Perm b) : upC x a = upC x b := (h.filter _).length_eq
theorem swA_inv : ∀ (j : Nat) (l : List Int), j + 1 < l.length → nth l j < nth l (j + 1) → invL (swA j l) + 1 = invL l
  | _, [], h, _ => by simp at h
  | 0, [a], h, _ => by simp at h
  | 0, a :: b :: r, _, h => by
    have h' : a < b := h
    show invL (b :: a :: r) + 1 = invL (a :: b :: r)
    simp only [invL, upC, List.filter_cons]
    rw [decide_eq_false (show ¬ b < a by omega), decide_eq_true h']
    simp only [Bool.false_eq_true, if_false, if_true, List.length_cons]
    omega
  | j + 1, x :: r, h, h2 => by
    have h1 : j + 1 < r.length := by simpa using h
    have ih := swA_inv j r h1 h2
    show invL (x :: swA j r) + 1 = invL (x :: r)
    simp only [invL]
    rw [upC_perm (swA_perm j r)]
    omega
theorem inv_pos : ∀ (j : Nat) (l : List Int), j + 1 < l.length → nth l j < nth l (j + 1) → 0 < invL l := fun j l h h2 => by
  have := swA_inv j l h h2
  omega
theorem upC_le (x : Int) (l : List Int) : upC x l ≤ l.length := List.length_filter_le _ _
theorem inv_five {l : List Int} (h : l.length ≤ 5) : invL l ≤ 10 := by
  rcases l with _ | ⟨a, _ | ⟨b, _ | ⟨c, _ | ⟨d, _ | ⟨e, _ | ⟨f, r⟩⟩⟩⟩⟩⟩
  · simp [invL]
  · have := upC_le a []; simp only [invL, List.length_nil] at *; omega
  · have := upC_le a [b]; have := upC_le b []; simp only [invL, List.length_nil, List.length_cons] at *; omega
  · have := upC_le a [b, c]; have := upC_le b [c]; have := upC_le c []; simp only [invL, List.length_nil, List.length_cons] at *; omega
  · have := upC_le a [b, c, d]; have := upC_le b [c, d]; have := upC_le c [d]; have := upC_le d []; simp only [invL, List.length_nil, List.length_cons] at *; omega
  · have := upC_le a [b, c, d, e]; have := upC_le b [c, d, e]; have := upC_le c [d, e]; have := upC_le d [e]; have := upC_le e []; simp only [invL, List.length_nil, List.length_cons] at *; omega
  · simp only [List.length_cons] at h; omega
def ascB (l : List Int) (j : Nat) : Bool := decide (nth l j < nth l (j + 1))
def firstAsc (l : List Int) : Option Nat := (List.range (l.length - 1)).find? (ascB l)
theorem find_first {p : Nat → Bool} {n j : Nat} (hj : j < n) (h : p j = true) (h0 : ∀ i, i < j → p i = false) : (List.range n).find? p = some j := by
  induction n with
  | zero => omega
  | succ n ih =>
    rw [List.range_succ, List.find?_append]
    rcases Nat.lt_or_ge j n with h1 | h1
    · rw [ih h1]; rfl
    · obtain rfl : j = n := by omega
      have : (List.range j).find? p = none := by
        rw [List.find?_eq_none]
        intro x hx
        rw [h0 x (List.mem_range.1 hx)]; simp
      rw [this]
      simp [h]
theorem firstAsc_some {l : List Int} {j : Nat} (hj : j + 1 < l.length) (h : nth l j < nth l (j + 1)) (h0 : ∀ i, i < j → ¬ nth l i < nth l (i + 1)) : firstAsc l = some j :=
  find_first (by omega) (decide_eq_true h) fun i hi => decide_eq_false (h0 i hi)
theorem firstAsc_none {l : List Int} (h0 : ∀ i, i + 1 < l.length → ¬ nth l i < nth l (i + 1)) : firstAsc l = none := by
  unfold firstAsc
  rw [List.find?_eq_none]
  intro x hx
  rw [List.mem_range] at hx
  rw [ascB, decide_eq_false (h0 x (by omega))]; simp
def monoK (e : List Int) : List (Int × Int) := [(keyL (padL e 7), 1)]
def keyM : Nat → List Int → List (Int × Int)
  | 0, e => monoK e
  | n + 1, e => match firstAsc e with
    | none => monoK e
    | some j => demK j (keyM n (swA j e))
theorem keyM_none {e : List Int} (n : Nat) (h : firstAsc e = none) : keyM n e = monoK e := by
  cases n with
  | zero => rfl
  | succ n => rw [keyM, h]
theorem keyM_some {e : List Int} {j : Nat} (n : Nat) (h : firstAsc e = some j) : keyM (n + 1) e = demK j (keyM n (swA j e)) := by rw [keyM, h]
theorem swA_all {P : Int → Prop} (h0 : P 0) {l : List Int} {j : Nat} (h : ∀ i, P (nth l i)) : ∀ i, P (nth (swA j l) i) := fun i => by
  rcases Nat.lt_or_ge i (swA j l).length with h1 | h1
  · rw [nth_lt h1]
    have h2 : (swA j l)[i] ∈ l := (swA_perm j l).mem_iff.1 (List.getElem_mem h1)
    obtain ⟨k, hk, e⟩ := List.getElem_of_mem h2
    have := h k
    rw [nth_lt hk, e] at this
    exact this
  · rw [nth_ge h1]; exact h0
theorem PK.mono {H : Type} {w : World} {b C C' : Nat} {E : Int} {L : List (Int × Int)} (h : PK H w b E C L) (hC : C ≤ C') : PK H w b E C' L := by
  obtain ⟨n, f, f1, f2, f3, f4, f5⟩ := h
  exact ⟨n, f, f1, f2, f3, Nat.le_trans f4 hC, f5⟩
theorem PK.len {H : Type} {w : World} {b C : Nat} {E : Int} {L : List (Int × Int)} (h : PK H w b E C L) (hE : E ≤ 127) : L.length ≤ C := by
  obtain ⟨n, f, f1, f2, f3, f4, f5⟩ := h
  rw [← f5, (f3.perm hE).length_eq, List.length_map]
  exact Nat.le_trans f3.len f4
theorem PK.one {H : Type} {w : World} {b C : Nat} {e : List Int} (h : PK H w b 24 C [(keyL e, 1)]) (h7 : e.length = 7) (h4 : ∀ j, 0 ≤ nth e j ∧ nth e j ≤ 4) : PK H w b 4 1 [(keyL e, 1)] := by
  obtain ⟨n, f, f1, f2, f3, f4, f5⟩ := h
  have h1 := f3.back (by omega)
  rw [f5] at h1
  have h2 : [(keyL e, (1 : Int))].map exT = [(e, 1)] := by
    show [exT (kc (e, 1))] = _
    rw [exT_kc h7 fun j _ => by have := h4 j; simp only; omega]
  rw [h2] at h1
  obtain rfl : f = [(e, 1)] := List.singleton_perm.1 h1 |>.symm
  refine ⟨n, _, f1, f2, ⟨f3.srt, fun x hx => ?_⟩, Nat.le_refl _, f5⟩
  obtain rfl : x = (e, 1) := by simpa using hx
  exact ⟨⟨h7, h4⟩, by simp⟩
end Go.Proofs.Ytgbojgmmingfdaa

/- staircase of the program. -/
namespace Go.Proofs.Ytgbojgmmingfdaa
open Go.RowKit Go.Maps Go.MapKept Go.WideMaps

/-- The exponents that stand after k steps. -/
def stairC (m k : Nat) : List Int := (List.range 7).map fun (j : Nat) => if j < k then (m : Int) - 1 - j else 0
theorem stairC_len (m k : Nat) : (stairC m k).length = 7 := by simp [stairC]
theorem stairC_at {m k j : Nat} (h : j < 7) : nth (stairC m k) j = if j < k then (m : Int) - 1 - j else 0 := by
  rw [nth_lt (by rw [stairC_len]; exact h)]
  simp [stairC]
theorem stairC_set {m k : Nat} (h : k < 7) : (stairC m k).set k ((m : Int) - 1 - k) = stairC m (k + 1) := by
  refine ext_nth (by rw [List.length_set, stairC_len, stairC_len]) fun j hj => ?_
  rw [List.length_set, stairC_len] at hj
  rw [stairC_at hj]
  by_cases e : k = j
  · subst e
    rw [nth_set_eq (by rw [stairC_len]; exact hj), if_pos (by omega)]
  · rw [nth_set_ne e, stairC_at hj]
    by_cases h2 : j < k
    · rw [if_pos h2, if_pos (by omega)]
    · rw [if_neg h2, if_neg (by omega)]
set_option maxRecDepth 100000 in
set_option maxHeartbeats 2000000 in
theorem stair_any {H : Type} {w : World} (m : Nat) (hm : 1 ≤ m ∧ m ≤ 6) :
    Calls Try.prog 163 #[.int .i64 (m : Int)] w (MakesK H w 5 1 [(keyL (stairC m m), 1)]) := by
  have hmm := fun t w => run_makeMap (P := Try.prog) t w
  have K0 : Hid (BK (w.alloc (.cells #[.int .i64 0, .int .i64 0, .int .i64 0, .int .i64 0, .int .i64 0, .int .i64 0, .int .i64 0] 76)) w.heap.size 76 (cellsI (stairC m 0))) := BK.new w _ _
  have B0 : Hid (Below w.heap.size w (w.alloc (.cells #[.int .i64 0, .int .i64 0, .int .i64 0, .int .i64 0, .int .i64 0, .int .i64 0, .int .i64 0] 76))) := (Below.refl _ _).alloc (Nat.le_refl _) _
  go_enter Try.func163, Try.ntmps163
  go_upto_region 3 with fail
  go_loopw [4, 7] (fun _ i wr => ∃ k : Nat, k ≤ m ∧ i = .int .i64 (k : Int) ∧ Hid (BK wr w.heap.size 76 (cellsI (stairC m k)) ∧ Below w.heap.size w wr)) (fun _ i _ => m - (intOf i).toNat)
  case atStart => exact ⟨0, Nat.zero_le _, rfl, K0.out, B0.out⟩
  case round =>
    clear K0 B0
    obtain ⟨k, hk, rfl, HY⟩ := hrel
    by_cases hlt : k < m
    · have hw1 : IntKind.i64.wrap ((m : Int) - 1) = (m : Int) - 1 := by rw [IntKind.wrap_i64]; omega
      have hw2 : IntKind.i64.wrap ((m : Int) - 1 - (k : Int)) = (m : Int) - 1 - (k : Int) := by rw [IntKind.wrap_i64]; omega
      have hk7 : (k : Int) < 7 := by omega
      have hk7' : k < 7 := by omega
      have z : wr.cell? ⟨w.heap.size, k, none⟩ = some (.int .i64 (nth (stairC m k) k)) := HY.out.1.cell (by rw [cellsI, List.getElem?_map, List.getElem?_eq_getElem (by rw [stairC_len]; exact hk7'), nth_lt (by rw [stairC_len]; exact hk7')]; rfl)
      have fz : wr.frozen? ⟨w.heap.size, k, none⟩ = false := HY.out.1.frozen
      have hs := HY.out.1.set k (.int .i64 ((m : Int) - 1 - (k : Int)))
      have HS : Hid (BK (wr.setCell ⟨w.heap.size, k, none⟩ (.int .i64 ((m : Int) - 1 - (k : Int)))) w.heap.size 76 (cellsI (stairC m (k + 1))) ∧ Below w.heap.size w (wr.setCell ⟨w.heap.size, k, none⟩ (.int .i64 ((m : Int) - 1 - (k : Int))))) := by
        refine ⟨?_, HY.out.2.grown (HY.out.1.grown k _) HY.out.2.size fun b e => by injection e with e; omega⟩
        rw [← stairC_set hk7', cellsI, List.map_set]
        exact hs
      obtain ⟨zz, hz⟩ : ∃ x, x = nth (stairC m k) k := ⟨_, rfl⟩
      rw [← hz] at z
      clear hs hz
      go_wp2_with fail
      go_roundw
      case rel => exact ⟨k + 1, by omega, by go_num, HS.out⟩
      case measure => simp [intOf]; omega
    · obtain rfl : k = m := by omega
      have h7 : (stairC k k).length = 7 := stairC_len k k
      have hex : Ex7 (stairC k k) := by
        refine ⟨h7, fun x hx => ?_⟩
        obtain ⟨j, hj, e⟩ := List.getElem_of_mem hx
        have h1 := stairC_at (m := k) (k := k) (j := j) (by omega)
        rw [nth_lt hj, e] at h1
        rw [h1]
        refine WalkArith.wf_i64 ?_
        split <;> omega
      obtain ⟨W3, hrun, hpm, hg3⟩ := (PM.made (H := H) wr).put (e := stairC k k) (c := 1) (by unfold maxLen; omega) hex rfl (by omega) (by decide)
      have HPM := Lib.hid hpm
      have HG3 := Lib.hid hg3
      have HEE : Hid (∃ e, e = stairC k k) := ⟨_, rfl⟩
      have HBK : Hid (BK (wr.alloc (.map #[] 0)) w.heap.size 76 (cellsI (stairC k k))) := HY.out.1.alloc _
      have hlo : ∀ j, 0 ≤ nth (stairC k k) j ∧ nth (stairC k k) j ≤ 5 := fun j => by
        by_cases hj : j < 7
        · rw [stairC_at hj]
          split <;> omega
        · rw [nth_ge (by rw [h7]; omega)]; omega
      have HLO := Lib.hid hlo
      have H7 := Lib.hid h7
      obtain ⟨ee, hee⟩ : ∃ e, e = stairC k k := ⟨_, rfl⟩
      have HEQ := Lib.hid hee
      rw [← hee] at hrun HBK hpm h7
      obtain ⟨s0, s1, s2, s3, s4, s5, s6, rfl⟩ : ∃ s0 s1 s2 s3 s4 s5 s6, ee = [s0, s1, s2, s3, s4, s5, s6] := by
        clear hrun HBK hpm hee HEQ HEE
        rcases ee with _ | ⟨p0, _ | ⟨p1, _ | ⟨p2, _ | ⟨p3, _ | ⟨p4, _ | ⟨p5, _ | ⟨p6, _ | ⟨p7, r⟩⟩⟩⟩⟩⟩⟩⟩
        all_goals first | exact ⟨_, _, _, _, _, _, _, rfl⟩ | (simp only [List.length_cons, List.length_nil] at h7; omega)
      have q0 := HBK.out.cell (j := 0) rfl
      have q1 := HBK.out.cell (j := 1) rfl
      have q2 := HBK.out.cell (j := 2) rfl
      have q3 := HBK.out.cell (j := 3) rfl
      have q4 := HBK.out.cell (j := 4) rfl
      have q5 := HBK.out.cell (j := 5) rfl
      have q6 := HBK.out.cell (j := 6) rfl
      have hrun' : (Instr.mapUpdate TM (.map (some wr.heap.size)) (.agg #[.int .i64 s0, .int .i64 s1, .int .i64 s2, .int .i64 s3, .int .i64 s4, .int .i64 s5, .int .i64 s6]) (.int .i64 1)).run Try.prog (wr.alloc (.map #[] 0)) = .ok () W3 := hrun
      clear hrun hpm hg3 hee h7 hex hlo
      go_wp2_with fail
      go_ret
      have hb3 : Below w.heap.size w W3 := (HY.out.2.alloc HY.out.2.size (.map #[] 0)).grown HG3.out (HY.out.2.alloc HY.out.2.size (.map #[] 0)).size fun b e => by injection e with e; have := HY.out.2.size; omega
      have hadd : addP [] (stairC k k) 1 = [(stairC k k, 1)] := by simp [addP, addUp]
      refine ⟨_, rfl, HY.out.2.size, ⟨1, _, HPM.out, by omega, ?_, ?_, ?_⟩, hb3⟩
      · have h := (PolE.nil_ 5).adds (X := [(stairC k k, 1)]) fun x hx => by
          rw [List.mem_singleton] at hx
          subst hx
          exact ⟨H7.out, HLO.out⟩
        exact h
      · rw [hadd]; exact Nat.le_refl _
      · rw [hadd]; rfl
end Go.Proofs.Ytgbojgmmingfdaa
