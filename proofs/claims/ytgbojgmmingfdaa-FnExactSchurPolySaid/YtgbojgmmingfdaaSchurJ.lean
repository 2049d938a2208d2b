/- SchurPoly of the program, to its end. -/
import Derived.Test.YtgbojgmmingfdaaSchurI
namespace Go.Proofs.Ytgbojgmmingfdaa
open Go.RowKit Go.Maps Go.MapKept Go.WideMaps

/-- A number as seven exponents. -/
def expUp : Nat → Int → List Int
  | 0, _ => []
  | j + 1, k => k % 128 :: expUp j (k / 128)
def expL (k : Int) : List Int := expUp 7 k
theorem expUp_len : ∀ (j : Nat) (k : Int), (expUp j k).length = j
  | 0, _ => rfl
  | j + 1, k => by rw [expUp, List.length_cons, expUp_len j]
def lowL : List Int → Int
  | [] => 0
  | x :: r => x + 128 * lowL r
theorem expUp_low : ∀ (l : List Int), (∀ x ∈ l, 0 ≤ x ∧ x ≤ 127) → expUp l.length (lowL l) = l
  | [], _ => rfl
  | x :: r, h => by
    have hx := h x (by simp)
    rw [List.length_cons, expUp, lowL, show (x + 128 * lowL r) % 128 = x by omega, show (x + 128 * lowL r) / 128 = lowL r by omega, expUp_low r fun y hy => h y (List.mem_cons_of_mem _ hy)]
theorem keyL_lowL {e : List Int} (h : e.length = 7) : keyL e = lowL e := by
  rcases e with _ | ⟨a, _ | ⟨b, _ | ⟨c, _ | ⟨d, _ | ⟨f, _ | ⟨g, _ | ⟨i, _ | ⟨j, r⟩⟩⟩⟩⟩⟩⟩⟩
  all_goals first | (exfalso; simp only [List.length_cons, List.length_nil] at h; omega) | skip
  show (((((((0 * 128 + i) * 128 + g) * 128 + f) * 128 + d) * 128 + c) * 128 + b) * 128 + a : Int) = _
  simp only [lowL]
  omega
theorem expL_keyL {e : List Int} (h : e.length = 7) (h2 : Ex128 e) : expL (keyL e) = e := by
  rw [keyL_lowL h, expL, ← h]
  refine expUp_low e fun x hx => ?_
  obtain ⟨j, hj, rfl⟩ := List.getElem_of_mem hx
  have := h2 j (by omega)
  rwa [nth_lt hj] at this
def exT (x : Int × Int) : List Int × Int := (expL x.1, x.2)
/-- What is left of keys as terms within the limits. -/
def shutB (L : List (Int × Int)) : Bool := decide (L.length ≤ 600) && polyB (L.map exT)
def shutT (L : List (Int × Int)) : List (List Int × Int) := if shutB L then L.map exT else []
theorem shut_no {L : List (Int × Int)} (h : shutB L = false) : shutT L = [] := by simp [shutT, h]
theorem shut_yes {L : List (Int × Int)} (h : shutB L = true) : shutT L = L.map exT := by simp [shutT, h]
def schurOk (ms : List Int) (n : Int) : Bool := smallB ms && inB n 0 7
def schurT (ms : List Int) (n : Int) : List (List Int × Int) := (schurK n.toNat ms).map exT
def schurB (ms : List Int) (n : Int) : Bool := schurOk ms n && shutB (schurK n.toNat ms)
def schurR (ms : List Int) (n : Int) : List (List Int × Int) := if schurB ms n then schurT ms n else []
theorem sumL_sum (l : List Int) : sumL l = l.sum := by
  have key : ∀ (l : List Int) (k : Nat), k ≤ l.length → sumTo l k = (l.take k).sum := fun l k => by
    induction k with
    | zero => intro _; simp [sumTo]
    | succ k ih =>
      intro hk
      rw [sumTo, ih (by omega), take_succ_nth (by omega), List.sum_append]
      simp
  rw [sumL, key l _ (Nat.le_refl _), List.take_length]
theorem desc_of : ∀ {l : List Int}, (∀ j, j < l.length → 1 ≤ nth l j) → (∀ j, 0 < j → j < l.length → nth l j ≤ nth l (j - 1)) → Desc l
  | [], _, _ => trivial
  | x :: r, h1, h2 => by
    have hx : 1 ≤ x := h1 0 (by simp)
    refine ⟨?_, by omega, desc_of (fun j hj => h1 (j + 1) (by simpa using hj)) fun j hj hj2 => ?_⟩
    · by_cases hr : 0 < r.length
      · exact h2 1 (by omega) (by simpa using hr)
      · rw [nth_ge (by omega)]; omega
    · have := h2 (j + 1) (by omega) (by simpa using hj2)
      obtain ⟨i, rfl⟩ : ∃ i, j = i + 1 := ⟨j - 1, by omega⟩
      exact this
theorem small_facts {ms : List Int} (h : smallB ms = true) : Desc ms ∧ Pos ms ∧ ms.sum ≤ 8 ∧ ms.length ≤ 16 ∧ ∀ j, nth ms j ≤ 1000 := by
  obtain ⟨h1, h2⟩ := smallB_shape h
  have h0 := h1
  unfold isShapeB at h1
  rw [Bool.and_eq_true, decide_eq_true_eq] at h1
  have hp : Pos ms := fun j hj => (shapeAt_iff.1 (allB_at h1.2 hj)).1.1
  refine ⟨desc_of hp fun j hj hj2 => (shapeAt_iff.1 (allB_at h1.2 hj2)).2 hj, hp, by rw [← sumL_sum]; exact h2, h1.1, fun j => by have := (shape_range h0 j).2; omega⟩
/-- What a function leaves that returns terms and a bool. -/
def MakesTm (w : World) (ps : List (List Int × Int)) (ok : Bool) : Ending → World → Prop := fun e w' =>
  ∃ v cells, e = .returned (.tuple #[v, .bool ok]) ∧ OT w' w.heap.size w.heap.size v ps cells ∧ Below w.heap.size w w'
theorem schurB_no {ms : List Int} {n : Int} (h : schurOk ms n = false) : schurB ms n = false ∧ schurR ms n = [] := by
  have : schurB ms n = false := by simp [schurB, h]
  exact ⟨this, by simp [schurR, this]⟩
/-- Terms in order; the keys of an order. -/
def SortedT (ps : List (List Int × Int)) : Prop := ps.Pairwise (fun x y => ¬ byT y.1 x.1 < 0)
def IsL (acc : List (List Int × Int)) (L : List (Int × Int)) : Prop := ∀ ps : List (List Int × Int), ps.Perm acc → SortedT ps → ps.map kc = L
theorem sorted_ex {acc : List (List Int × Int)} (hb : ∀ x ∈ acc, Ex128 x.1) : ∃ ps : List (List Int × Int), ps.Perm acc ∧ SortedT ps := by
  refine ⟨acc.mergeSort (fun a b => decide (keyL b.1 ≤ keyL a.1)), List.mergeSort_perm _ _, ?_⟩
  have h := List.pairwise_mergeSort (le := fun a b : List Int × Int => decide (keyL b.1 ≤ keyL a.1)) (fun a b c h1 h2 => by simp at *; omega) (fun a b => by simp; omega) acc
  refine h.imp_of_mem fun {x y} hx hy h1 h2 => ?_
  have h3 := (byT_key (hb y ((List.mergeSort_perm _ _).mem_iff.1 hy)) (hb x ((List.mergeSort_perm _ _).mem_iff.1 hx))).1 h2
  simp at h1
  omega
/-- closed gives two values. -/
theorem closedV {w : World} {acc : List (List Int × Int)} {e : Ending} {w' : World} (h : ClosedT w acc e w') : ∃ v b, e = .returned (.tuple #[v, .bool b]) ∧ ClosedT w acc (.returned (.tuple #[v, .bool b])) w' := by
  have hh := h
  obtain ⟨-, h | ⟨-, ps, -, -, h | ⟨-, v, cells, h, -⟩⟩⟩ := h
  · exact ⟨_, _, h.2, by rw [h.2] at hh; exact hh⟩
  · exact ⟨_, _, h.2, by rw [h.2] at hh; exact hh⟩
  · exact ⟨_, _, h, by rw [h] at hh; exact hh⟩
theorem closed_is {w w' : World} {acc : List (List Int × Int)} {L : List (Int × Int)} {v : Value} {b : Bool} (h : ClosedT w acc (.returned (.tuple #[v, .bool b])) w') (hb : ∀ x ∈ acc, x.1.length = 7 ∧ Ex128 x.1)
    (hL : IsL acc L) :
    Below w.heap.size w w' ∧ ∃ cells, OT w' w.heap.size w.heap.size v (shutT L) cells ∧ b = shutB L := by
  unfold shutT shutB
  have hlen : L.length = acc.length := by
    obtain ⟨ps, h1, h2⟩ := sorted_ex fun x hx => (hb x hx).2
    rw [← hL ps h1 h2, List.length_map, h1.length_eq]
  have hdec : ∀ ps : List (List Int × Int), ps.Perm acc → ps.Pairwise (fun x y => ¬ byT y.1 x.1 < 0) → L.map exT = ps := fun ps h1 h2 => by
    rw [← hL ps h1 h2, List.map_map]
    refine (List.map_congr_left fun x hx => ?_).trans (List.map_id _)
    obtain ⟨a1, a2⟩ := hb x (h1.mem_iff.1 hx)
    show (expL (keyL x.1), x.2) = x
    rw [expL_keyL a1 a2]
  obtain ⟨hbl, h⟩ := h
  refine ⟨hbl, ?_⟩
  rcases h with ⟨h1, h2⟩ | ⟨h1, ps, p1, p2, ⟨h3, h4⟩ | ⟨h3, v', cells, h4, h5⟩⟩
  · injection h2 with h2
    injection h2 with h2
    simp at h2
    obtain ⟨rfl, rfl⟩ := h2
    have e : (decide (L.length ≤ 600) && polyB (L.map exT)) = false := by rw [decide_eq_false (by omega)]; rfl
    exact ⟨[], by rw [e]; exact OF.nil_ _ _ _ _ _, e.symm⟩
  · injection h4 with h2
    injection h2 with h2
    simp at h2
    obtain ⟨rfl, rfl⟩ := h2
    have e : (decide (L.length ≤ 600) && polyB (L.map exT)) = false := by rw [hdec ps p1 p2, h3]; simp
    exact ⟨[], by rw [e]; exact OF.nil_ _ _ _ _ _, e.symm⟩
  · injection h4 with h2
    injection h2 with h2
    simp at h2
    obtain ⟨rfl, rfl⟩ := h2
    have e : (decide (L.length ≤ 600) && polyB (L.map exT)) = true := by rw [hdec ps p1 p2, h3, decide_eq_true (by omega)]; rfl
    exact ⟨cells, by rw [e, if_pos rfl, hdec ps p1 p2]; exact h5, e.symm⟩
set_option maxRecDepth 100000 in
set_option maxHeartbeats 1000000 in
theorem iSchur_any {w : World} {A : Option Addr} {m : Nat} {ms : List Int} (c : Nat) (n : Int) (hx : RI w A m ms) (hm : m ≤ 1000000000) (hn : -9223372036854775808 ≤ n ∧ n ≤ 9223372036854775807) :
    Calls Try.prog 11 #[.slice A m c, .int .i64 n] w (MakesTm w (schurR ms n) (schurB ms n)) := by
  have HBA : Hid (∀ W, RI W A m ms → Calls Try.prog 62 #[.slice A m c] W (Gives W (.bool (smallB ms)))) := fun W h => iSmall_any _ h hm
  rcases h1 : smallB ms with _ | _
  · have HE := Lib.hid (schurB_no (n := n) (by simp [schurOk, h1] : schurOk ms n = false))
    rw [h1] at HBA
    clear h1
    go_enter Try.func11, Try.ntmps11
    go_wp2_with (go_at_call 62; (with_reducible refine (HBA.out _ ?_).mono ?_); (first | exact hx | exact hx.drewN _); rintro e w' ⟨rfl, q0, rfl⟩)
    go_ret2
    rw [HE.out.1, HE.out.2]
    exact ⟨_, _, rfl, OF.nil_ _ _ _ _ _, Quiet.below ⟨_, rfl⟩⟩
  rcases h2 : inB n 0 7 with _ | _
  · have HE := Lib.hid (schurB_no (n := n) (by simp [schurOk, h2] : schurOk ms n = false))
    rw [h1] at HBA
    have h3 := inB_no.1 h2
    clear h1 h2
    by_cases h4 : n < 0
    · clear h3
      go_enter Try.func11, Try.ntmps11
      go_wp2_with (go_at_call 62; (with_reducible refine (HBA.out _ ?_).mono ?_); (first | exact hx | exact hx.drewN _); rintro e w' ⟨rfl, q0, rfl⟩)
      go_ret2
      rw [HE.out.1, HE.out.2]
      exact ⟨_, _, rfl, OF.nil_ _ _ _ _ _, Quiet.below ⟨_, rfl⟩⟩
    · have h5 : 7 < n := by omega
      clear h3
      go_enter Try.func11, Try.ntmps11
      go_wp2_with (go_at_call 62; (with_reducible refine (HBA.out _ ?_).mono ?_); (first | exact hx | exact hx.drewN _); rintro e w' ⟨rfl, q0, rfl⟩)
      go_ret2
      rw [HE.out.1, HE.out.2]
      exact ⟨_, _, rfl, OF.nil_ _ _ _ _ _, Quiet.below ⟨_, rfl⟩⟩
  have h3 := inB_iff.1 h2
  have HOK : Hid (schurOk ms n = true) := by show _ = _; simp [schurOk, h1, h2]
  have HF := Lib.hid (small_facts h1)
  rw [h1] at HBA
  clear h1 h2
  obtain ⟨N, rfl⟩ : ∃ N : Nat, n = (N : Int) := ⟨n.toNat, by omega⟩
  obtain ⟨hd, hpos, h8, hl16, hb1000⟩ := HF.out
  have HTL : Hid ((tabs ms N).length ≤ 5764801) := tabs_len hd h8 (by omega)
  have HOT : Hid (∀ q ∈ tabs ms N, okT8 q) := fun q hq => by
    obtain ⟨a1, a2⟩ := tabR_mem _ _ q hq
    have a3 := sum_nat hd
    have a4 := congrArg List.length a2
    rw [List.length_map, List.length_map] at a4
    exact ⟨fun r hr x hx => by have := a1 r hr x hx; omega, by rw [a2]; omega, by omega⟩
  have HAC : Hid (AccOk (accT [] (tabs ms N)) (tabs ms N).length ∧ IsL (accT [] (tabs ms N)) (schurK N ms)) := by
    refine ⟨?_, fun ps h1 h2 => schur_law hd hpos h8 (by omega) h1 h2⟩
    have := (AccOk.all hd h8 (n := (N : Int)) (by omega) (tabs ms N) (fun t h => h) AccOk.nil_ (Int.le_refl _)).1
    simpa using this
  clear hd hpos h8 hl16 hb1000
  have HGD : Hid (∀ x ∈ accT [] (tabs ms N), Ex7 x.1 ∧ x.2 ≠ 0) := fun x hx => by
    obtain ⟨a1, a2, a3, a4⟩ := HAC.out.1.ok x hx
    refine ⟨⟨a1, fun y hy => ?_⟩, by omega⟩
    obtain ⟨j, hj, rfl⟩ := List.getElem_of_mem hy
    have := a2 j
    rw [nth_lt hj] at this
    exact WalkArith.wf_i64 (by omega)
  have HEB : Hid (∀ x ∈ accT [] (tabs ms N), Ex7B x.1) := fun x hx => by
    obtain ⟨a1, a2, -⟩ := HAC.out.1.ok x hx
    exact ⟨a1, fun j _ => by have := a2 j; omega⟩
  have hmm := fun t w => run_makeMap (P := Try.prog) t w
  have HW : Hid (∀ q, Below w.heap.size w (((w.drewN q).alloc (.map #[] 0)).alloc (.cells #[.map (some w.heap.size)] 74))) := fun q => ((below_drewN (Below.refl _ w) q).alloc (Nat.le_refl _) _).alloc (by simp) _
  have HI : Hid (∀ q, SchI Unit w (w.heap.size + 1) w.heap.size (((w.drewN q).alloc (.map #[] 0)).alloc (.cells #[.map (some w.heap.size)] 74)) ([], 0) (fun k => k = w.heap.size + 1 ∨ k = w.heap.size)) := fun q =>
    ⟨fun k => Iff.rfl, by have h := BK.new ((w.drewN q).alloc (.map #[] 0)) 74 [.map (some w.heap.size)]; simpa using h, (PM.made (w.drewN q)).alloc _, HW.out q⟩
  have HCF : Hid (∀ q, Calls Try.prog 63 #[.slice A m c, .int .i64 (N : Int), .slice none 0 0, .func (.func 64) #[] #[.pointer (some ⟨w.heap.size + 1, 0, none⟩)]] (((w.drewN q).alloc (.map #[] 0)).alloc (.cells #[.map (some w.heap.size)] 74))
      (fun e w' => e = .returned (.bool true) ∧ ∃ g b, BK w' g 74 [.map (some b)] ∧ g = w.heap.size + 1 ∧ PM Unit w' b (tabs ms N).length (accT [] (tabs ms N)) ∧ Below w.heap.size w w')) := fun q => by
    obtain ⟨hd, hpos, h8, hl16, hb1000⟩ := HF.out
    refine (fill_all (schurC Unit (w0 := w) (gf := w.heap.size + 1) (b := w.heap.size) ⟨by omega, Nat.le_refl _, by omega⟩) hx hm hpos hd (by omega) hb1000 (HI.out q) (HW.out q) ⟨by have := HTL.out; simp only; omega, AccOk.nil_⟩ HOT.out).mono ?_
    rintro e w' ⟨he, O', h1, h2, h3⟩
    rw [seeT_all (fun _ _ => rfl), foldl_stepS] at he h1
    refine ⟨he, w.heap.size + 1, w.heap.size, h1.bf, rfl, ?_, h1.bel⟩
    have := h1.pm
    simpa using this
  go_enter Try.func11, Try.ntmps11
  go_wp2_with (first
    | (go_at_call 62; (with_reducible refine (HBA.out _ ?_).mono ?_); (first | exact hx | exact hx.drewN _); rintro e w' ⟨rfl, q0, rfl⟩)
    | (go_at_call 63; refine (HCF.out _).mono ?_; rintro e w3 ⟨rfl, g, b, f1, f2, f3, f4⟩; subst f2; have f5 := f1.cell (j := 0) rfl; have F3 := Lib.hid f3; have F4 := Lib.hid f4; clear f1 f3 f4)
    | (go_at_call 66; refine (closed_any F3.out ⟨HAC.out.1.srt, HGD.out⟩ HEB.out).mono ?_; rintro e w4 hcl; obtain ⟨v4, b4, rfl, hv4⟩ := closedV hcl; clear hcl)
    | fail)
  go_ret2
  obtain ⟨c1, cells, c2, c3⟩ := closed_is hv4 (fun x hx => by obtain ⟨a1, a2, -⟩ := HAC.out.1.ok x hx; exact ⟨a1, fun j _ => by have := a2 j; omega⟩) HAC.out.2
  have e : schurB ms N = shutB (schurK N ms) := by rw [schurB, HOK.out]; rfl
  refine ⟨v4, cells, by rw [e, c3]; rfl, ?_, F4.out.trans (c1.mono F4.out.size)⟩
  rw [schurR, e]
  exact OF.mono c2 F4.out.size F4.out.size
end Go.Proofs.Ytgbojgmmingfdaa
