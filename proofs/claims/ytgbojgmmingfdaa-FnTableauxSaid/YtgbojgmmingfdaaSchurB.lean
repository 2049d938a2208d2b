/- SchurPoly of the program, to its end. -/
import Derived.Test.YtgbojgmmingfdaaFillT
import Derived.Test.YtgbojgmmingfdaaMons
namespace Go.Proofs.Ytgbojgmmingfdaa
open Go.RowKit Go.Maps Go.MapKept Go.WideMaps

/-- A number as seven exponents. -/
def expUp : Nat → Int → List Int
  | 0, _ => []
  | j + 1, k => k % 128 :: expUp j (k / 128)
def expL (k : Int) : List Int := expUp 7 k
theorem expUp_len : ∀ (j : Nat) (k : Int), (expUp j k).length = j
  | 0, _ => rfl
  | j + 1, k => by rw [expUp, List.length_cons, expUp_len j]
def lowL : List Int → Int
  | [] => 0
  | x :: r => x + 128 * lowL r
theorem expUp_low : ∀ (l : List Int), (∀ x ∈ l, 0 ≤ x ∧ x ≤ 127) → expUp l.length (lowL l) = l
  | [], _ => rfl
  | x :: r, h => by
    have hx := h x (by simp)
    rw [List.length_cons, expUp, lowL, show (x + 128 * lowL r) % 128 = x by omega, show (x + 128 * lowL r) / 128 = lowL r by omega, expUp_low r fun y hy => h y (List.mem_cons_of_mem _ hy)]
theorem keyL_lowL {e : List Int} (h : e.length = 7) : keyL e = lowL e := by
  rcases e with _ | ⟨a, _ | ⟨b, _ | ⟨c, _ | ⟨d, _ | ⟨f, _ | ⟨g, _ | ⟨i, _ | ⟨j, r⟩⟩⟩⟩⟩⟩⟩⟩
  all_goals first | (exfalso; simp only [List.length_cons, List.length_nil] at h; omega) | skip
  show (((((((0 * 128 + i) * 128 + g) * 128 + f) * 128 + d) * 128 + c) * 128 + b) * 128 + a : Int) = _
  simp only [lowL]
  omega
theorem expL_keyL {e : List Int} (h : e.length = 7) (h2 : Ex128 e) : expL (keyL e) = e := by
  rw [keyL_lowL h, expL, ← h]
  refine expUp_low e fun x hx => ?_
  obtain ⟨j, hj, rfl⟩ := List.getElem_of_mem hx
  have := h2 j (by omega)
  rwa [nth_lt hj] at this
def exT (x : Int × Int) : List Int × Int := (expL x.1, x.2)
/-- What is left of keys as terms within the limits. -/
def shutB (L : List (Int × Int)) : Bool := decide (L.length ≤ 600) && polyB (L.map exT)
def shutT (L : List (Int × Int)) : List (List Int × Int) := if shutB L then L.map exT else []
theorem shut_no {L : List (Int × Int)} (h : shutB L = false) : shutT L = [] := by simp [shutT, h]
theorem shut_yes {L : List (Int × Int)} (h : shutB L = true) : shutT L = L.map exT := by simp [shutT, h]
def schurOk (ms : List Int) (n : Int) : Bool := smallB ms && inB n 0 7
def schurT (ms : List Int) (n : Int) : List (List Int × Int) := (schurK n.toNat ms).map exT
def schurB (ms : List Int) (n : Int) : Bool := schurOk ms n && shutB (schurK n.toNat ms)
def schurR (ms : List Int) (n : Int) : List (List Int × Int) := if schurB ms n then schurT ms n else []
theorem sumL_sum (l : List Int) : sumL l = l.sum := by
  have key : ∀ (l : List Int) (k : Nat), k ≤ l.length → sumTo l k = (l.take k).sum := fun l k => by
    induction k with
    | zero => intro _; simp [sumTo]
    | succ k ih =>
      intro hk
      rw [sumTo, ih (by omega), take_succ_nth (by omega), List.sum_append]
      simp
  rw [sumL, key l _ (Nat.le_refl _), List.take_length]
theorem desc_of : ∀ {l : List Int}, (∀ j, j < l.length → 1 ≤ nth l j) → (∀ j, 0 < j → j < l.length → nth l j ≤ nth l (j - 1)) → Desc l
  | [], _, _ => trivial
  | x :: r, h1, h2 => by
    have hx : 1 ≤ x := h1 0 (by simp)
    refine ⟨?_, by omega, desc_of (fun j hj => h1 (j + 1) (by simpa using hj)) fun j hj hj2 => ?_⟩
    · by_cases hr : 0 < r.length
      · exact h2 1 (by omega) (by simpa using hr)
      · rw [nth_ge (by omega)]; omega
    · have := h2 (j + 1) (by omega) (by simpa using hj2)
      obtain ⟨i, rfl⟩ : ∃ i, j = i + 1 := ⟨j - 1, by omega⟩
      exact this
theorem small_facts {ms : List Int} (h : smallB ms = true) : Desc ms ∧ Pos ms ∧ ms.sum ≤ 8 ∧ ms.length ≤ 16 ∧ ∀ j, nth ms j ≤ 1000 := by
  obtain ⟨h1, h2⟩ := smallB_shape h
  have h0 := h1
  unfold isShapeB at h1
  rw [Bool.and_eq_true, decide_eq_true_eq] at h1
  have hp : Pos ms := fun j hj => (shapeAt_iff.1 (allB_at h1.2 hj)).1.1
  refine ⟨desc_of hp fun j hj hj2 => (shapeAt_iff.1 (allB_at h1.2 hj2)).2 hj, hp, by rw [← sumL_sum]; exact h2, h1.1, fun j => by have := (shape_range h0 j).2; omega⟩
/-- What a function leaves that returns terms and a bool. -/
def MakesTm (w : World) (ps : List (List Int × Int)) (ok : Bool) : Ending → World → Prop := fun e w' =>
  ∃ v cells, e = .returned (.tuple #[v, .bool ok]) ∧ OT w' w.heap.size w.heap.size v ps cells ∧ Below w.heap.size w w'
theorem schurB_no {ms : List Int} {n : Int} (h : schurOk ms n = false) : schurB ms n = false ∧ schurR ms n = [] := by
  have : schurB ms n = false := by simp [schurB, h]
  exact ⟨this, by simp [schurR, this]⟩
/-- Terms in order; the keys of an order. -/
def SortedT (ps : List (List Int × Int)) : Prop := ps.Pairwise (fun x y => ¬ byT y.1 x.1 < 0)
def IsL (acc : List (List Int × Int)) (L : List (Int × Int)) : Prop := ∀ ps : List (List Int × Int), ps.Perm acc → SortedT ps → ps.map kc = L
theorem sorted_ex {acc : List (List Int × Int)} (hb : ∀ x ∈ acc, Ex128 x.1) : ∃ ps : List (List Int × Int), ps.Perm acc ∧ SortedT ps := by
  refine ⟨acc.mergeSort (fun a b => decide (keyL b.1 ≤ keyL a.1)), List.mergeSort_perm _ _, ?_⟩
  have h := List.pairwise_mergeSort (le := fun a b : List Int × Int => decide (keyL b.1 ≤ keyL a.1)) (fun a b c h1 h2 => by simp at *; omega) (fun a b => by simp; omega) acc
  refine h.imp_of_mem fun {x y} hx hy h1 h2 => ?_
  have h3 := (byT_key (hb y ((List.mergeSort_perm _ _).mem_iff.1 hy)) (hb x ((List.mergeSort_perm _ _).mem_iff.1 hx))).1 h2
  simp at h1
  omega
/-- closed gives two values. -/
theorem closedV {w : World} {acc : List (List Int × Int)} {e : Ending} {w' : World} (h : ClosedT w acc e w') : ∃ v b, e = .returned (.tuple #[v, .bool b]) ∧ ClosedT w acc (.returned (.tuple #[v, .bool b])) w' := by
  have hh := h
  obtain ⟨-, h | ⟨-, ps, -, -, h | ⟨-, v, cells, h, -⟩⟩⟩ := h
  · exact ⟨_, _, h.2, by rw [h.2] at hh; exact hh⟩
  · exact ⟨_, _, h.2, by rw [h.2] at hh; exact hh⟩
  · exact ⟨_, _, h, by rw [h] at hh; exact hh⟩
theorem closed_is {w w' : World} {acc : List (List Int × Int)} {L : List (Int × Int)} {v : Value} {b : Bool} (h : ClosedT w acc (.returned (.tuple #[v, .bool b])) w') (hb : ∀ x ∈ acc, x.1.length = 7 ∧ Ex128 x.1)
    (hL : IsL acc L) :
    Below w.heap.size w w' ∧ ∃ cells, OT w' w.heap.size w.heap.size v (shutT L) cells ∧ b = shutB L := by
  unfold shutT shutB
  have hlen : L.length = acc.length := by
    obtain ⟨ps, h1, h2⟩ := sorted_ex fun x hx => (hb x hx).2
    rw [← hL ps h1 h2, List.length_map, h1.length_eq]
  have hdec : ∀ ps : List (List Int × Int), ps.Perm acc → ps.Pairwise (fun x y => ¬ byT y.1 x.1 < 0) → L.map exT = ps := fun ps h1 h2 => by
    rw [← hL ps h1 h2, List.map_map]
    refine (List.map_congr_left fun x hx => ?_).trans (List.map_id _)
    obtain ⟨a1, a2⟩ := hb x (h1.mem_iff.1 hx)
    show (expL (keyL x.1), x.2) = x
    rw [expL_keyL a1 a2]
  obtain ⟨hbl, h⟩ := h
  refine ⟨hbl, ?_⟩
  rcases h with ⟨h1, h2⟩ | ⟨h1, ps, p1, p2, ⟨h3, h4⟩ | ⟨h3, v', cells, h4, h5⟩⟩
  · injection h2 with h2
    injection h2 with h2
    simp at h2
    obtain ⟨rfl, rfl⟩ := h2
    have e : (decide (L.length ≤ 600) && polyB (L.map exT)) = false := by rw [decide_eq_false (by omega)]; rfl
    exact ⟨[], by rw [e]; exact OF.nil_ _ _ _ _ _, e.symm⟩
  · injection h4 with h2
    injection h2 with h2
    simp at h2
    obtain ⟨rfl, rfl⟩ := h2
    have e : (decide (L.length ≤ 600) && polyB (L.map exT)) = false := by rw [hdec ps p1 p2, h3]; simp
    exact ⟨[], by rw [e]; exact OF.nil_ _ _ _ _ _, e.symm⟩
  · injection h4 with h2
    injection h2 with h2
    simp at h2
    obtain ⟨rfl, rfl⟩ := h2
    have e : (decide (L.length ≤ 600) && polyB (L.map exT)) = true := by rw [hdec ps p1 p2, h3, decide_eq_true (by omega)]; rfl
    exact ⟨cells, by rw [e, if_pos rfl, hdec ps p1 p2]; exact h5, e.symm⟩
set_option maxRecDepth 100000 in
set_option maxHeartbeats 1000000 in
theorem iSchur_any {w : World} {A : Option Addr} {m : Nat} {ms : List Int} (c : Nat) (n : Int) (hx : RI w A m ms) (hm : m ≤ 1000000000) (hn : -9223372036854775808 ≤ n ∧ n ≤ 9223372036854775807) :
    Calls Try.prog 11 #[.slice A m c, .int .i64 n] w (MakesTm w (schurR ms n) (schurB ms n)) := by
  have HBA : Hid (∀ W, RI W A m ms → Calls Try.prog 62 #[.slice A m c] W (Gives W (.bool (smallB ms)))) := fun W h => iSmall_any _ h hm
  rcases h1 : smallB ms with _ | _
  · have HE := Lib.hid (schurB_no (n := n) (by simp [schurOk, h1] : schurOk ms n = false))
    rw [h1] at HBA
    clear h1
    go_enter Try.func11, Try.ntmps11
    go_wp2_with (go_at_call 62; (with_reducible refine (HBA.out _ ?_).mono ?_); (first | exact hx | exact hx.drewN _); rintro e w' ⟨rfl, q0, rfl⟩)
    go_ret2
    rw [HE.out.1, HE.out.2]
    exact ⟨_, _, rfl, OF.nil_ _ _ _ _ _, Quiet.below ⟨_, rfl⟩⟩
  rcases h2 : inB n 0 7 with _ | _
  · have HE := Lib.hid (schurB_no (n := n) (by simp [schurOk, h2] : schurOk ms n = false))
    rw [h1] at HBA
    have h3 := inB_no.1 h2
    clear h1 h2
    by_cases h4 : n < 0
    · clear h3
      go_enter Try.func11, Try.ntmps11
      go_wp2_with (go_at_call 62; (with_reducible refine (HBA.out _ ?_).mono ?_); (first | exact hx | exact hx.drewN _); rintro e w' ⟨rfl, q0, rfl⟩)
      go_ret2
      rw [HE.out.1, HE.out.2]
      exact ⟨_, _, rfl, OF.nil_ _ _ _ _ _, Quiet.below ⟨_, rfl⟩⟩
    · have h5 : 7 < n := by omega
      clear h3
      go_enter Try.func11, Try.ntmps11
      go_wp2_with (go_at_call 62; (with_reducible refine (HBA.out _ ?_).mono ?_); (first | exact hx | exact hx.drewN _); rintro e w' ⟨rfl, q0, rfl⟩)
      go_ret2
      rw [HE.out.1, HE.out.2]
      exact ⟨_, _, rfl, OF.nil_ _ _ _ _ _, Quiet.below ⟨_, rfl⟩⟩
  have h3 := inB_iff.1 h2
  have HOK : Hid (schurOk ms n = true) := by show _ = _; simp [schurOk, h1, h2]
  have HF := Lib.hid (small_facts h1)
  rw [h1] at HBA
  clear h1 h2
  obtain ⟨N, rfl⟩ : ∃ N : Nat, n = (N : Int) := ⟨n.toNat, by omega⟩
  obtain ⟨hd, hpos, h8, hl16, hb1000⟩ := HF.out
  have HTL : Hid ((tabs ms N).length ≤ 5764801) := tabs_len hd h8 (by omega)
  have HOT : Hid (∀ q ∈ tabs ms N, okT8 q) := fun q hq => by
    obtain ⟨a1, a2⟩ := tabR_mem _ _ q hq
    have a3 := sum_nat hd
    have a4 := congrArg List.length a2
    rw [List.length_map, List.length_map] at a4
    exact ⟨fun r hr x hx => by have := a1 r hr x hx; omega, by rw [a2]; omega, by omega⟩
  have HAC : Hid (AccOk (accT [] (tabs ms N)) (tabs ms N).length ∧ IsL (accT [] (tabs ms N)) (schurK N ms)) := by
    refine ⟨?_, fun ps h1 h2 => schur_law hd hpos h8 (by omega) h1 h2⟩
    have := (AccOk.all hd h8 (n := (N : Int)) (by omega) (tabs ms N) (fun t h => h) AccOk.nil_ (Int.le_refl _)).1
    simpa using this
  clear hd hpos h8 hl16 hb1000
  have HGD : Hid (∀ x ∈ accT [] (tabs ms N), Ex7 x.1 ∧ x.2 ≠ 0) := fun x hx => by
    obtain ⟨a1, a2, a3, a4⟩ := HAC.out.1.ok x hx
    refine ⟨⟨a1, fun y hy => ?_⟩, by omega⟩
    obtain ⟨j, hj, rfl⟩ := List.getElem_of_mem hy
    have := a2 j
    rw [nth_lt hj] at this
    exact WalkArith.wf_i64 (by omega)
  have HEB : Hid (∀ x ∈ accT [] (tabs ms N), Ex7B x.1) := fun x hx => by
    obtain ⟨a1, a2, -⟩ := HAC.out.1.ok x hx
    exact ⟨a1, fun j _ => by have := a2 j; omega⟩
  have hmm := fun t w => run_makeMap (P := Try.prog) t w
  have HW : Hid (∀ q, Below w.heap.size w (((w.drewN q).alloc (.map #[] 0)).alloc (.cells #[.map (some w.heap.size)] 74))) := fun q => ((below_drewN (Below.refl _ w) q).alloc (Nat.le_refl _) _).alloc (by simp) _
  have HI : Hid (∀ q, SchI Unit w (w.heap.size + 1) w.heap.size (((w.drewN q).alloc (.map #[] 0)).alloc (.cells #[.map (some w.heap.size)] 74)) ([], 0) (fun k => k = w.heap.size + 1 ∨ k = w.heap.size)) := fun q =>
    ⟨fun k => Iff.rfl, by have h := BK.new ((w.drewN q).alloc (.map #[] 0)) 74 [.map (some w.heap.size)]; simpa using h, (PM.made (w.drewN q)).alloc _, HW.out q⟩
  have HCF : Hid (∀ q, Calls Try.prog 63 #[.slice A m c, .int .i64 (N : Int), .slice none 0 0, .func (.func 64) #[] #[.pointer (some ⟨w.heap.size + 1, 0, none⟩)]] (((w.drewN q).alloc (.map #[] 0)).alloc (.cells #[.map (some w.heap.size)] 74))
      (fun e w' => e = .returned (.bool true) ∧ ∃ g b, BK w' g 74 [.map (some b)] ∧ g = w.heap.size + 1 ∧ PM Unit w' b (tabs ms N).length (accT [] (tabs ms N)) ∧ Below w.heap.size w w')) := fun q => by
    obtain ⟨hd, hpos, h8, hl16, hb1000⟩ := HF.out
    refine (fill_all (schurC Unit (w0 := w) (gf := w.heap.size + 1) (b := w.heap.size) ⟨by omega, Nat.le_refl _, by omega⟩) hx hm hpos hd (by omega) hb1000 (HI.out q) (HW.out q) ⟨by have := HTL.out; simp only; omega, AccOk.nil_⟩ HOT.out).mono ?_
    rintro e w' ⟨he, O', h1, h2, h3⟩
    rw [seeT_all (fun _ _ => rfl), foldl_stepS] at he h1
    refine ⟨he, w.heap.size + 1, w.heap.size, h1.bf, rfl, ?_, h1.bel⟩
    have := h1.pm
    simpa using this
  go_enter Try.func11, Try.ntmps11
  go_wp2_with (first
    | (go_at_call 62; (with_reducible refine (HBA.out _ ?_).mono ?_); (first | exact hx | exact hx.drewN _); rintro e w' ⟨rfl, q0, rfl⟩)
    | (go_at_call 63; refine (HCF.out _).mono ?_; rintro e w3 ⟨rfl, g, b, f1, f2, f3, f4⟩; subst f2; have f5 := f1.cell (j := 0) rfl; have F3 := Lib.hid f3; have F4 := Lib.hid f4; clear f1 f3 f4)
    | (go_at_call 66; refine (closed_any F3.out ⟨HAC.out.1.srt, HGD.out⟩ HEB.out).mono ?_; rintro e w4 hcl; obtain ⟨v4, b4, rfl, hv4⟩ := closedV hcl; clear hcl)
    | fail)
  go_ret2
  obtain ⟨c1, cells, c2, c3⟩ := closed_is hv4 (fun x hx => by obtain ⟨a1, a2, -⟩ := HAC.out.1.ok x hx; exact ⟨a1, fun j _ => by have := a2 j; omega⟩) HAC.out.2
  have e : schurB ms N = shutB (schurK N ms) := by rw [schurB, HOK.out]; rfl
  refine ⟨v4, cells, by rw [e, c3]; rfl, ?_, F4.out.trans (c1.mono F4.out.size)⟩
  rw [schurR, e]
  exact OF.mono c2 F4.out.size F4.out.size
end Go.Proofs.Ytgbojgmmingfdaa

/- Bounds of the keys and coefficients of Schur polynomials. No program is in sight here. -/
namespace Go.Proofs.Ytgbojgmmingfdaa

theorem insK_abs {k c : Int} : ∀ {l : List (Int × Int)}, absK (insK k c l) ≤ absK l + c.natAbs
  | [] => by rw [insK]; split <;> simp [absK]
  | x :: r => by
    have ih := insK_abs (k := k) (c := c) (l := r)
    have e : ∀ (y : Int × Int) (s : List (Int × Int)), absK (y :: s) = y.2.natAbs + absK s := fun y s => by simp [absK]
    rw [insK]
    split
    · rw [e, e]; omega
    · split
      · split
        · rw [e]; omega
        · rw [e, e]
          show (x.2 + c).natAbs + _ ≤ _
          omega
      · split
        · omega
        · rw [e]
          show c.natAbs + _ ≤ _
          omega
theorem gatherK_abs (l : List (Int × Int)) : absK (gatherK l) ≤ absK l := by
  induction l with
  | nil => simp [gatherK, absK]
  | cons x l ih =>
    have h := insK_abs (k := x.1) (c := x.2) (l := gatherK l)
    have e : absK (x :: l) = x.2.natAbs + absK l := by simp [absK]
    show absK (insK x.1 x.2 (gatherK l)) ≤ _
    omega
theorem gatherK_mem {l : List (Int × Int)} : ∀ {x : Int × Int}, x ∈ gatherK l → ∃ y ∈ l, y.1 = x.1 := by
  induction l with
  | nil => intro x h; simp [gatherK] at h
  | cons z l ih =>
    intro x h
    rcases insK_key h with h | h
    · obtain ⟨y, h1, h2⟩ := ih h
      exact ⟨y, List.mem_cons_of_mem _ h1, h2⟩
    · exact ⟨z, by simp, h.symm⟩
theorem absK_len {l : List (Int × Int)} (h : ∀ x ∈ l, x.2 ≠ 0) : l.length ≤ absK l := by
  induction l with
  | nil => simp
  | cons x l ih =>
    have e : absK (x :: l) = x.2.natAbs + absK l := by simp [absK]
    have h1 := h x (by simp)
    have h2 := ih fun y hy => h y (List.mem_cons_of_mem _ hy)
    rw [e, List.length_cons]; omega
/-- One strip's part of the polynomial. -/
def partK (n : Nat) (ms mu : List Int) : List (Int × Int) := (schurK n (bare mu)).map fun x => (x.1 + (ms.sum - (bare mu).sum) * 128 ^ n, x.2)
theorem absK_shift (l : List (Int × Int)) (d : Int) : absK (l.map fun x => (x.1 + d, x.2)) = absK l := by
  unfold absK; rw [List.map_map]; rfl
theorem absK_flat {α : Type} {f : α → List (Int × Int)} {g : α → List Int} : ∀ {l : List α}, (∀ a ∈ l, absK (f a) ≤ (g a).length) → absK (l.flatMap f) ≤ (l.flatMap g).length
  | [], _ => by simp [absK]
  | a :: l, h => by
    rw [List.flatMap_cons, List.flatMap_cons, absK_app, List.length_append]
    have h1 := h a (by simp)
    have h2 := absK_flat (l := l) fun b hb => h b (List.mem_cons_of_mem _ hb)
    omega
theorem schurK_abs : ∀ (n : Nat) (ms : List Int), Desc ms → Pos ms → absK (schurK n ms) ≤ (keysS ms n).length
  | 0, ms, hd, hp => by
    rw [schurK]
    split
    · simp [absK]
    · rename_i h
      obtain rfl : ms = [] := List.eq_nil_of_length_eq_zero (by omega)
      rw [keysS_nil]; decide
  | n + 1, ms, hd, hp => by
    rw [schurK]
    split
    · simp [absK]
    · split
      · rename_i h
        obtain rfl : ms = [] := List.eq_nil_of_length_eq_zero h
        rw [keysS_nil]; decide
      · refine Nat.le_trans (gatherK_abs _) ?_
        have e := (keysS_cut (n := n) hd).length_eq
        rw [show ((n + 1 : Nat) : Int) = (n : Int) + 1 by omega, e]
        refine absK_flat fun mu hmu => ?_
        obtain ⟨b1, b2⟩ := strips_bare hd hp hmu
        rw [absK_shift, List.length_map]
        exact schurK_abs n (bare mu) b1 b2
theorem parts_abs {n : Nat} {ms : List Int} (hd : Desc ms) (hp : Pos ms) (h8 : ms.sum ≤ 8) (hn : n + 1 ≤ 7) : absK ((stripsR ms).flatMap (partK n ms)) ≤ 5764801 ∧ ((stripsR ms).flatMap (partK n ms)).length ≤ 5764801 := by
  have h1 : absK ((stripsR ms).flatMap (partK n ms)) ≤ 5764801 := by
    have e := (keysS_cut (n := n) hd).length_eq
    refine Nat.le_trans (absK_flat (g := fun mu => (keysS (bare mu) n).map (· + (ms.sum - (bare mu).sum) * 128 ^ n)) fun mu hmu => ?_) ?_
    · obtain ⟨b1, b2⟩ := strips_bare hd hp hmu
      unfold partK
      rw [absK_shift, List.length_map]
      exact schurK_abs n (bare mu) b1 b2
    · rw [← e]
      have := tabs_len (n := n + 1) hd h8 hn
      unfold keysS
      rw [List.length_map]
      exact this
  refine ⟨h1, Nat.le_trans (absK_len fun x hx => ?_) h1⟩
  obtain ⟨mu, -, hx⟩ := List.mem_flatMap.1 hx
  obtain ⟨y, hy, rfl⟩ := List.mem_map.1 hx
  exact (schurK_srt n (bare mu)).2 y hy
theorem sum_nonneg : ∀ {ms : List Int}, Desc ms → 0 ≤ ms.sum
  | [], _ => Int.le_refl _
  | m :: ms, h => by
    have := sum_nonneg h.2.2
    have := h.2.1
    rw [List.sum_cons]; omega
theorem strips_sum : ∀ {ms mu : List Int}, Desc ms → mu ∈ stripsR ms → mu.sum ≤ ms.sum
  | [], mu, _, h => by
    rw [stripsR, List.mem_singleton] at h
    subst h; exact Int.le_refl _
  | m :: ms, mu, hd, h => by
    rw [stripsR, List.mem_flatMap] at h
    obtain ⟨c, hc, h⟩ := h
    obtain ⟨nu, hnu, rfl⟩ := List.mem_map.1 h
    have hc := upI_mem.1 hc
    have := strips_sum hd.2.2 hnu
    have h0 := hd.1
    rw [List.sum_cons, List.sum_cons]; omega
theorem pow_mono {n : Nat} : (128 : Int) ^ n ≤ 128 ^ (n + 1) := by
  have : (0 : Int) < 128 ^ n := by
    induction n with
    | zero => decide
    | succ n ih => rw [Int.pow_succ]; omega
  rw [Int.pow_succ]; omega
theorem pow_pos (n : Nat) : (0 : Int) < 128 ^ n := by
  induction n with
  | zero => decide
  | succ n ih => rw [Int.pow_succ]; omega
theorem schurK_key : ∀ (n : Nat) (ms : List Int), Desc ms → Pos ms → ∀ x ∈ schurK n ms, 0 ≤ x.1 ∧ x.1 ≤ ms.sum * 128 ^ n
  | 0, ms, hd, hp, x, hx => by
    rw [schurK] at hx
    split at hx
    · cases hx
    · rw [List.mem_singleton.1 hx]
      exact ⟨Int.le_refl _, Int.mul_nonneg (sum_nonneg hd) (by decide)⟩
  | n + 1, ms, hd, hp, x, hx => by
    have hp0 := pow_pos n
    have hs0 := sum_nonneg hd
    have hup : ms.sum * 128 ^ n ≤ ms.sum * 128 ^ (n + 1) := Int.mul_le_mul_of_nonneg_left pow_mono hs0
    rw [schurK] at hx
    split at hx
    · cases hx
    · split at hx
      · rw [List.mem_singleton.1 hx]
        exact ⟨Int.le_refl _, Int.mul_nonneg hs0 (Int.le_of_lt (pow_pos _))⟩
      · obtain ⟨y, hy, e⟩ := gatherK_mem hx
        obtain ⟨mu, hmu, hy⟩ := List.mem_flatMap.1 hy
        obtain ⟨z, hz, rfl⟩ := List.mem_map.1 hy
        obtain ⟨b1, b2⟩ := strips_bare hd hp hmu
        have h1 := schurK_key n (bare mu) b1 b2 z hz
        have h2 := strips_sum hd hmu
        rw [← sum_bare] at h2
        have h3 : 0 ≤ (ms.sum - (bare mu).sum) * 128 ^ n := Int.mul_nonneg (by omega) (Int.le_of_lt hp0)
        rw [Int.sub_mul] at h3
        simp only at e
        rw [Int.sub_mul] at e
        omega
theorem schurK_range {n : Nat} {ms : List Int} (hd : Desc ms) (hp : Pos ms) (h8 : ms.sum ≤ 8) (hn : n ≤ 7) {x : Int × Int} (hx : x ∈ schurK n ms) : 0 ≤ x.1 ∧ x.1 ≤ 4503599627370496 := by
  have h := schurK_key n ms hd hp x hx
  have h2 : ms.sum * 128 ^ n ≤ 8 * 128 ^ n := Int.mul_le_mul_of_nonneg_right h8 (Int.le_of_lt (pow_pos n))
  have h3 : (128 : Int) ^ n ≤ 128 ^ 7 := by
    have : n = 0 ∨ n = 1 ∨ n = 2 ∨ n = 3 ∨ n = 4 ∨ n = 5 ∨ n = 6 ∨ n = 7 := by omega
    rcases this with rfl | rfl | rfl | rfl | rfl | rfl | rfl | rfl <;> decide
  have h4 : (128 : Int) ^ 7 = 562949953421312 := by decide
  omega
end Go.Proofs.Ytgbojgmmingfdaa

/- Polynomials as maps, in the words of keys: what a map holds is known by its list of keys with coefficients. -/
namespace Go.Proofs.Ytgbojgmmingfdaa
open Go.RowKit Go.Maps Go.MapKept Go.WideMaps

/-- Terms of a polynomial whose exponents are at most E. -/
structure PolE (E : Int) (acc : List (List Int × Int)) : Prop where
  srt : Srt acc
  ok : ∀ x ∈ acc, (x.1.length = 7 ∧ ∀ j, 0 ≤ nth x.1 j ∧ nth x.1 j ≤ E) ∧ x.2 ≠ 0
def absT (l : List (List Int × Int)) : Nat := (l.map fun x => x.2.natAbs).sum
theorem absT_cons (x : List Int × Int) (l : List (List Int × Int)) : absT (x :: l) = x.2.natAbs + absT l := by simp [absT]
theorem absT_app (a b : List (List Int × Int)) : absT (a ++ b) = absT a + absT b := by simp [absT, List.sum_append]
theorem absT_kc (l : List (List Int × Int)) : absK (l.map kc) = absT l := by unfold absK absT; rw [List.map_map]; rfl
def addsP (acc X : List (List Int × Int)) : List (List Int × Int) := X.foldl (fun a x => addP a x.1 x.2) acc
theorem addsP_app (acc X Y : List (List Int × Int)) : addsP acc (X ++ Y) = addsP (addsP acc X) Y := by simp [addsP]
def kf (acc : List (List Int × Int)) : List (Int × Int) := gatherK (acc.map kc)
theorem addR_val {s : List Int} {n : Int} (hn : n ≠ 0) : ∀ {ps : List (List Int × Int)} {x : List Int × Int}, x ∈ addR ps s n → x ∈ ps ∨ (x.1 = s ∧ (x.2 ≠ 0))
  | [], x, h => by simp [addR] at h; exact .inr (by rw [h]; exact ⟨rfl, hn⟩)
  | y :: r, x, h => by
    rw [addR] at h
    split at h
    · rcases List.mem_cons.1 h with h | h
      · exact .inl (by rw [h]; simp)
      · exact (addR_val hn h).imp (List.mem_cons_of_mem _) id
    · split at h
      · split at h
        · exact .inl (List.mem_cons_of_mem _ h)
        · rename_i h3
          rcases List.mem_cons.1 h with h | h
          · exact .inr (by rw [h]; exact ⟨rfl, h3⟩)
          · exact .inl (List.mem_cons_of_mem _ h)
      · rcases List.mem_cons.1 h with h | h
        · exact .inr (by rw [h]; exact ⟨rfl, hn⟩)
        · exact .inl h
theorem addR_abs {s : List Int} {n : Int} : ∀ {ps : List (List Int × Int)}, absT (addR ps s n) ≤ absT ps + n.natAbs
  | [] => by simp [addR, absT]
  | y :: r => by
    have ih := addR_abs (s := s) (n := n) (ps := r)
    rw [addR]
    split
    · rw [absT_cons, absT_cons]; omega
    · split
      · split
        · rw [absT_cons]; omega
        · rw [absT_cons, absT_cons]
          show (y.2 + n).natAbs + _ ≤ _
          omega
      · rw [absT_cons]
        show n.natAbs + _ ≤ _
        omega
section
variable {E : Int} {acc X : List (List Int × Int)}
theorem PolE.nil_ (E : Int) : PolE E [] := ⟨fun i j _ hj => by simp at hj, by simp⟩
theorem PolE.add (h : PolE E acc) {e : List Int} (c : Int) (he : e.length = 7 ∧ ∀ j, 0 ≤ nth e j ∧ nth e j ≤ E) : PolE E (addP acc e c) := by
  by_cases hc : c = 0
  · subst hc; rw [addP_none0]; exact h
  · refine ⟨addP_srt h.srt, fun x hx => ?_⟩
    rw [addP_rec hc] at hx
    rcases addR_val hc hx with hx | ⟨h1, h2⟩
    · exact h.ok x hx
    · rw [h1]; exact ⟨he, h2⟩
theorem addP_abs {e : List Int} {c : Int} : absT (addP acc e c) ≤ absT acc + c.natAbs := by
  by_cases hc : c = 0
  · subst hc; rw [addP_none0]; simp
  · rw [addP_rec hc]; exact addR_abs
theorem coef_addP {e : List Int} {c : Int} (k : Int) : coefK ((addP acc e c).map kc) k = coefK (acc.map kc) k + if keyL e = k then c else 0 := by
  by_cases hc : c = 0
  · subst hc; rw [addP_none0]; simp
  · rw [addP_rec hc]; exact coef_addR k acc
theorem PolE.adds : ∀ {X acc : List (List Int × Int)}, PolE E acc → (∀ x ∈ X, x.1.length = 7 ∧ ∀ j, 0 ≤ nth x.1 j ∧ nth x.1 j ≤ E) → PolE E (addsP acc X)
  | [], _, h, _ => h
  | x :: X, _, h, hX => PolE.adds (X := X) (h.add x.2 (hX x (by simp))) fun y hy => hX y (List.mem_cons_of_mem _ hy)
theorem adds_abs : ∀ {X acc : List (List Int × Int)}, absT (addsP acc X) ≤ absT acc + absT X
  | [], _ => by simp [addsP, absT]
  | x :: X, acc => by
    have h1 := adds_abs (X := X) (acc := addP acc x.1 x.2)
    have h2 := addP_abs (acc := acc) (e := x.1) (c := x.2)
    rw [absT_cons]
    have e : addsP acc (x :: X) = addsP (addP acc x.1 x.2) X := rfl
    rw [e]; omega
theorem coef_adds (k : Int) : ∀ {X acc : List (List Int × Int)}, coefK ((addsP acc X).map kc) k = coefK (acc.map kc) k + coefK (X.map kc) k
  | [], _ => by simp [addsP, coefK]
  | x :: X, acc => by
    have e : addsP acc (x :: X) = addsP (addP acc x.1 x.2) X := rfl
    rw [e, coef_adds k, coef_addP, List.map_cons, coefK_cons]
    show _ = _ + ((if keyL x.1 = k then x.2 else 0) + _)
    omega
theorem kf_adds : kf (addsP acc X) = gatherK (acc.map kc ++ X.map kc) :=
  srtK_uniq (gatherK_srt _) (gatherK_srt _) fun k => by unfold kf; rw [gatherK_coef, gatherK_coef, coef_adds, coefK_append]
theorem PolE.cf_abs (h : PolE E acc) (e : List Int) : (cf acc e).natAbs ≤ absT acc := by
  by_cases hc : cf acc e = 0
  · rw [hc]; simp
  · have h1 := cf_key hc
    have : ∀ {l : List (List Int × Int)} {x : List Int × Int}, x ∈ l → x.2.natAbs ≤ absT l := fun {l x} hx => by
      induction l with
      | nil => cases hx
      | cons y l ih =>
        rw [absT_cons]
        rcases List.mem_cons.1 hx with rfl | hx
        · omega
        · have := ih hx; omega
    exact this h1
theorem PolE.mono {E' : Int} (h : PolE E acc) (he : E ≤ E') : PolE E' acc := ⟨h.srt, fun x hx => by
  obtain ⟨⟨h1, h2⟩, h3⟩ := h.ok x hx
  exact ⟨⟨h1, fun j => by have := h2 j; omega⟩, h3⟩⟩
theorem PolE.good (h : PolE E acc) (hE : E ≤ 1000000) : GoodP acc := ⟨h.srt, fun x hx => by
  obtain ⟨⟨h1, h2⟩, h3⟩ := h.ok x hx
  refine ⟨⟨h1, fun y hy => ?_⟩, h3⟩
  obtain ⟨j, hj, rfl⟩ := List.getElem_of_mem hy
  have := h2 j
  rw [nth_lt hj] at this
  exact WalkArith.wf_i64 (by omega)⟩
theorem PolE.exB (h : PolE E acc) (hE : E ≤ 1000000) : ∀ x ∈ acc, Ex7B x.1 := fun x hx => by
  obtain ⟨⟨h1, h2⟩, h3⟩ := h.ok x hx
  exact ⟨h1, fun j _ => by have := h2 j; omega⟩
theorem PolE.ex128 (h : PolE E acc) (hE : E ≤ 127) : ∀ x ∈ acc, x.1.length = 7 ∧ Ex128 x.1 := fun x hx => by
  obtain ⟨⟨h1, h2⟩, h3⟩ := h.ok x hx
  exact ⟨h1, fun j _ => by have := h2 j; omega⟩
theorem PolE.isL (h : PolE E acc) (hE : E ≤ 127) : IsL acc (kf acc) := fun ps hp hs => by
  obtain ⟨s1, s2⟩ := sorted_keys hp hs h.srt fun x hx => ⟨(h.ex128 hE x hx).1, (h.ex128 hE x hx).2, (h.ok x hx).2⟩
  exact srtK_uniq s1 (gatherK_srt _) fun k => by rw [s2]; exact (gatherK_coef _ _).symm
theorem PolE.perm (h : PolE E acc) (hE : E ≤ 127) : (kf acc).Perm (acc.map kc) := by
  obtain ⟨ps, p1, p2⟩ := sorted_ex fun x hx => (h.ex128 hE x hx).2
  rw [← h.isL hE ps p1 p2]
  exact p1.map kc
theorem PolE.len (h : PolE E acc) : acc.length ≤ absT acc := by
  have h0 := h.ok
  clear h
  induction acc with
  | nil => simp
  | cons x r ih =>
    have h1 := (h0 x (by simp)).2
    have h2 := ih fun y hy => h0 y (List.mem_cons_of_mem _ hy)
    rw [absT_cons, List.length_cons]; omega
end
/-- Block b is a map that is a polynomial: its exponents are at most E, its coefficients together at most C, its keys are L. -/
def PK (H : Type) (w : World) (b : Nat) (E : Int) (C : Nat) (L : List (Int × Int)) : Prop := ∃ n acc, PM H w b n acc ∧ n ≤ 100000000 ∧ PolE E acc ∧ absT acc ≤ C ∧ kf acc = L
theorem PK.lt {H : Type} {w : World} {b : Nat} {E : Int} {C : Nat} {L : List (Int × Int)} (h : PK H w b E C L) : b < w.heap.size := by
  obtain ⟨n, acc, h1, -⟩ := h
  exact h1.lt
theorem PK.same {H : Type} {w w' : World} {b : Nat} {E : Int} {C : Nat} {L : List (Int × Int)} (h : PK H w b E C L) (e : w'.heap[b]? = w.heap[b]?) : PK H w' b E C L := by
  obtain ⟨n, acc, h1, h2⟩ := h
  exact ⟨n, acc, h1.same e, h2⟩
theorem PK.below {H : Type} {w w' : World} {b : Nat} {E : Int} {C : Nat} {L : List (Int × Int)} (h : PK H w b E C L) (hb : Below w.heap.size w w') : PK H w' b E C L := h.same (hb.block b h.lt)
/-- What a function leaves that returns a new polynomial. -/
def MakesK (H : Type) (w : World) (E : Int) (C : Nat) (L : List (Int × Int)) : Ending → World → Prop := fun e w' => ∃ b, e = .returned (.map (some b)) ∧ w.heap.size ≤ b ∧ PK H w' b E C L ∧ Below w.heap.size w w'
/-- closed, in the words of keys. -/
theorem closedK_any {H : Type} {w : World} {b : Nat} {E : Int} {C : Nat} {L : List (Int × Int)} (h : PK H w b E C L) (hE : E ≤ 127) : Calls Try.prog 66 #[.map (some b)] w (MakesTm w (shutT L) (shutB L)) := by
  obtain ⟨n, acc, h1, h2, h3, h4, h5⟩ := h
  refine (closed_any h1 (h3.good (by omega)) (h3.exB (by omega))).mono fun e w' hc => ?_
  obtain ⟨v, b', rfl, hv⟩ := closedV hc
  obtain ⟨c1, cells, c2, c3⟩ := closed_is hv (h3.ex128 hE) (h3.isL hE)
  rw [h5] at c2 c3
  exact ⟨v, cells, by rw [c3], c2, c1⟩
end Go.Proofs.Ytgbojgmmingfdaa
