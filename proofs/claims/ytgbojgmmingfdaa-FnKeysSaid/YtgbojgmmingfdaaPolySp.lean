/- SchurPoly of the program, to its end. -/
import Derived.Test.YtgbojgmmingfdaaSmall
import Derived.Test.YtgbojgmmingfdaaTermA
import Derived.Test.YtgbojgmmingfdaaTerms
import Derived.Test.YtgbojgmmingfdaaGathW
import Derived.Test.YtgbojgmmingfdaaSchurL
namespace Go.Proofs.Ytgbojgmmingfdaa
open Go.RowKit Go.Maps Go.MapKept Go.WideMaps

/-- A number as seven exponents. -/
def expUp : Nat → Int → List Int
  | 0, _ => []
  | j + 1, k => k % 128 :: expUp j (k / 128)
def expL (k : Int) : List Int := expUp 7 k
theorem expUp_len : ∀ (j : Nat) (k : Int), (expUp j k).length = j
  | 0, _ => rfl
  | j + 1, k => by rw [expUp, List.length_cons, expUp_len j]
def lowL : List Int → Int
  | [] => 0
  | x :: r => x + 128 * lowL r
theorem expUp_low : ∀ (l : List Int), (∀ x ∈ l, 0 ≤ x ∧ x ≤ 127) → expUp l.length (lowL l) = l
  | [], _ => rfl
  | x :: r, h => by
    have hx := h x (by simp)
    rw [List.length_cons, expUp, lowL, show (x + 128 * lowL r) % 128 = x by omega, show (x + 128 * lowL r) / 128 = lowL r by omega, expUp_low r fun y hy => h y (List.mem_cons_of_mem _ hy)]
theorem keyL_lowL {e : List Int} (h : e.length = 7) : keyL e = lowL e := by
  rcases e with _ | ⟨a, _ | ⟨b, _ | ⟨c, _ | ⟨d, _ | ⟨f, _ | ⟨g, _ | ⟨i, _ | ⟨j, r⟩⟩⟩⟩⟩⟩⟩⟩
  all_goals first | (exfalso; simp only [List.length_cons, List.length_nil] at h; omega) | skip
  show (((((((0 * 128 + i) * 128 + g) * 128 + f) * 128 + d) * 128 + c) * 128 + b) * 128 + a : Int) = _
  simp only [lowL]
  omega
theorem expL_keyL {e : List Int} (h : e.length = 7) (h2 : Ex128 e) : expL (keyL e) = e := by
  rw [keyL_lowL h, expL, ← h]
  refine expUp_low e fun x hx => ?_
  obtain ⟨j, hj, rfl⟩ := List.getElem_of_mem hx
  have := h2 j (by omega)
  rwa [nth_lt hj] at this
def exT (x : Int × Int) : List Int × Int := (expL x.1, x.2)
/-- What is left of keys as terms within the limits. -/
def shutB (L : List (Int × Int)) : Bool := decide (L.length ≤ 600) && polyB (L.map exT)
def shutT (L : List (Int × Int)) : List (List Int × Int) := if shutB L then L.map exT else []
theorem shut_no {L : List (Int × Int)} (h : shutB L = false) : shutT L = [] := by simp [shutT, h]
theorem shut_yes {L : List (Int × Int)} (h : shutB L = true) : shutT L = L.map exT := by simp [shutT, h]
def schurOk (ms : List Int) (n : Int) : Bool := smallB ms && inB n 0 7
def schurT (ms : List Int) (n : Int) : List (List Int × Int) := (schurK n.toNat ms).map exT
def schurB (ms : List Int) (n : Int) : Bool := schurOk ms n && shutB (schurK n.toNat ms)
def schurR (ms : List Int) (n : Int) : List (List Int × Int) := if schurB ms n then schurT ms n else []
theorem sumL_sum (l : List Int) : sumL l = l.sum := by
  have key : ∀ (l : List Int) (k : Nat), k ≤ l.length → sumTo l k = (l.take k).sum := fun l k => by
    induction k with
    | zero => intro _; simp [sumTo]
    | succ k ih =>
      intro hk
      rw [sumTo, ih (by omega), take_succ_nth (by omega), List.sum_append]
      simp
  rw [sumL, key l _ (Nat.le_refl _), List.take_length]
theorem desc_of : ∀ {l : List Int}, (∀ j, j < l.length → 1 ≤ nth l j) → (∀ j, 0 < j → j < l.length → nth l j ≤ nth l (j - 1)) → Desc l
  | [], _, _ => trivial
  | x :: r, h1, h2 => by
    have hx : 1 ≤ x := h1 0 (by simp)
    refine ⟨?_, by omega, desc_of (fun j hj => h1 (j + 1) (by simpa using hj)) fun j hj hj2 => ?_⟩
    · by_cases hr : 0 < r.length
      · exact h2 1 (by omega) (by simpa using hr)
      · rw [nth_ge (by omega)]; omega
    · have := h2 (j + 1) (by omega) (by simpa using hj2)
      obtain ⟨i, rfl⟩ : ∃ i, j = i + 1 := ⟨j - 1, by omega⟩
      exact this
theorem small_facts {ms : List Int} (h : smallB ms = true) : Desc ms ∧ Pos ms ∧ ms.sum ≤ 8 ∧ ms.length ≤ 16 ∧ ∀ j, nth ms j ≤ 1000 := by
  obtain ⟨h1, h2⟩ := smallB_shape h
  have h0 := h1
  unfold isShapeB at h1
  rw [Bool.and_eq_true, decide_eq_true_eq] at h1
  have hp : Pos ms := fun j hj => (shapeAt_iff.1 (allB_at h1.2 hj)).1.1
  refine ⟨desc_of hp fun j hj hj2 => (shapeAt_iff.1 (allB_at h1.2 hj2)).2 hj, hp, by rw [← sumL_sum]; exact h2, h1.1, fun j => by have := (shape_range h0 j).2; omega⟩
/-- What a function leaves that returns terms and a bool. -/
def MakesTm (w : World) (ps : List (List Int × Int)) (ok : Bool) : Ending → World → Prop := fun e w' =>
  ∃ v cells, e = .returned (.tuple #[v, .bool ok]) ∧ OT w' w.heap.size w.heap.size v ps cells ∧ Below w.heap.size w w'
theorem schurB_no {ms : List Int} {n : Int} (h : schurOk ms n = false) : schurB ms n = false ∧ schurR ms n = [] := by
  have : schurB ms n = false := by simp [schurB, h]
  exact ⟨this, by simp [schurR, this]⟩
/-- Terms in order; the keys of an order. -/
def SortedT (ps : List (List Int × Int)) : Prop := ps.Pairwise (fun x y => ¬ byT y.1 x.1 < 0)
def IsL (acc : List (List Int × Int)) (L : List (Int × Int)) : Prop := ∀ ps : List (List Int × Int), ps.Perm acc → SortedT ps → ps.map kc = L
theorem sorted_ex {acc : List (List Int × Int)} (hb : ∀ x ∈ acc, Ex128 x.1) : ∃ ps : List (List Int × Int), ps.Perm acc ∧ SortedT ps := by
  refine ⟨acc.mergeSort (fun a b => decide (keyL b.1 ≤ keyL a.1)), List.mergeSort_perm _ _, ?_⟩
  have h := List.pairwise_mergeSort (le := fun a b : List Int × Int => decide (keyL b.1 ≤ keyL a.1)) (fun a b c h1 h2 => by simp at *; omega) (fun a b => by simp; omega) acc
  refine h.imp_of_mem fun {x y} hx hy h1 h2 => ?_
  have h3 := (byT_key (hb y ((List.mergeSort_perm _ _).mem_iff.1 hy)) (hb x ((List.mergeSort_perm _ _).mem_iff.1 hx))).1 h2
  simp at h1
  omega
/-- closed gives two values. -/
theorem closedV {w : World} {acc : List (List Int × Int)} {e : Ending} {w' : World} (h : ClosedT w acc e w') : ∃ v b, e = .returned (.tuple #[v, .bool b]) ∧ ClosedT w acc (.returned (.tuple #[v, .bool b])) w' := by
  have hh := h
  obtain ⟨-, h | ⟨-, ps, -, -, h | ⟨-, v, cells, h, -⟩⟩⟩ := h
  · exact ⟨_, _, h.2, by rw [h.2] at hh; exact hh⟩
  · exact ⟨_, _, h.2, by rw [h.2] at hh; exact hh⟩
  · exact ⟨_, _, h, by rw [h] at hh; exact hh⟩
theorem closed_is {w w' : World} {acc : List (List Int × Int)} {L : List (Int × Int)} {v : Value} {b : Bool} (h : ClosedT w acc (.returned (.tuple #[v, .bool b])) w') (hb : ∀ x ∈ acc, x.1.length = 7 ∧ Ex128 x.1)
    (hL : IsL acc L) :
    Below w.heap.size w w' ∧ ∃ cells, OT w' w.heap.size w.heap.size v (shutT L) cells ∧ b = shutB L := by
  unfold shutT shutB
  have hlen : L.length = acc.length := by
    obtain ⟨ps, h1, h2⟩ := sorted_ex fun x hx => (hb x hx).2
    rw [← hL ps h1 h2, List.length_map, h1.length_eq]
  have hdec : ∀ ps : List (List Int × Int), ps.Perm acc → ps.Pairwise (fun x y => ¬ byT y.1 x.1 < 0) → L.map exT = ps := fun ps h1 h2 => by
    rw [← hL ps h1 h2, List.map_map]
    refine (List.map_congr_left fun x hx => ?_).trans (List.map_id _)
    obtain ⟨a1, a2⟩ := hb x (h1.mem_iff.1 hx)
    show (expL (keyL x.1), x.2) = x
    rw [expL_keyL a1 a2]
  obtain ⟨hbl, h⟩ := h
  refine ⟨hbl, ?_⟩
  rcases h with ⟨h1, h2⟩ | ⟨h1, ps, p1, p2, ⟨h3, h4⟩ | ⟨h3, v', cells, h4, h5⟩⟩
  · injection h2 with h2
    injection h2 with h2
    simp at h2
    obtain ⟨rfl, rfl⟩ := h2
    have e : (decide (L.length ≤ 600) && polyB (L.map exT)) = false := by rw [decide_eq_false (by omega)]; rfl
    exact ⟨[], by rw [e]; exact OF.nil_ _ _ _ _ _, e.symm⟩
  · injection h4 with h2
    injection h2 with h2
    simp at h2
    obtain ⟨rfl, rfl⟩ := h2
    have e : (decide (L.length ≤ 600) && polyB (L.map exT)) = false := by rw [hdec ps p1 p2, h3]; simp
    exact ⟨[], by rw [e]; exact OF.nil_ _ _ _ _ _, e.symm⟩
  · injection h4 with h2
    injection h2 with h2
    simp at h2
    obtain ⟨rfl, rfl⟩ := h2
    have e : (decide (L.length ≤ 600) && polyB (L.map exT)) = true := by rw [hdec ps p1 p2, h3, decide_eq_true (by omega)]; rfl
    exact ⟨cells, by rw [e, if_pos rfl, hdec ps p1 p2]; exact h5, e.symm⟩
set_option maxRecDepth 100000 in
set_option maxHeartbeats 1000000 in
theorem iSchur_any {w : World} {A : Option Addr} {m : Nat} {ms : List Int} (c : Nat) (n : Int) (hx : RI w A m ms) (hm : m ≤ 1000000000) (hn : -9223372036854775808 ≤ n ∧ n ≤ 9223372036854775807) :
    Calls Try.prog 11 #[.slice A m c, .int .i64 n] w (MakesTm w (schurR ms n) (schurB ms n)) := by
  have HBA : Hid (∀ W, RI W A m ms → Calls Try.prog 62 #[.slice A m c] W (Gives W (.bool (smallB ms)))) := fun W h => iSmall_any _ h hm
  rcases h1 : smallB ms with _ | _
  · have HE := Lib.hid (schurB_no (n := n) (by simp [schurOk, h1] : schurOk ms n = false))
    rw [h1] at HBA
    clear h1
    go_enter Try.func11, Try.ntmps11
    go_wp2_with (go_at_call 62; (with_reducible refine (HBA.out _ ?_).mono ?_); (first | exact hx | exact hx.drewN _); rintro e w' ⟨rfl, q0, rfl⟩)
    go_ret2
    rw [HE.out.1, HE.out.2]
    exact ⟨_, _, rfl, OF.nil_ _ _ _ _ _, Quiet.below ⟨_, rfl⟩⟩
  rcases h2 : inB n 0 7 with _ | _
  · have HE := Lib.hid (schurB_no (n := n) (by simp [schurOk, h2] : schurOk ms n = false))
    rw [h1] at HBA
    have h3 := inB_no.1 h2
    clear h1 h2
    by_cases h4 : n < 0
    · clear h3
      go_enter Try.func11, Try.ntmps11
      go_wp2_with (go_at_call 62; (with_reducible refine (HBA.out _ ?_).mono ?_); (first | exact hx | exact hx.drewN _); rintro e w' ⟨rfl, q0, rfl⟩)
      go_ret2
      rw [HE.out.1, HE.out.2]
      exact ⟨_, _, rfl, OF.nil_ _ _ _ _ _, Quiet.below ⟨_, rfl⟩⟩
    · have h5 : 7 < n := by omega
      clear h3
      go_enter Try.func11, Try.ntmps11
      go_wp2_with (go_at_call 62; (with_reducible refine (HBA.out _ ?_).mono ?_); (first | exact hx | exact hx.drewN _); rintro e w' ⟨rfl, q0, rfl⟩)
      go_ret2
      rw [HE.out.1, HE.out.2]
      exact ⟨_, _, rfl, OF.nil_ _ _ _ _ _, Quiet.below ⟨_, rfl⟩⟩
  have h3 := inB_iff.1 h2
  have HOK : Hid (schurOk ms n = true) := by show _ = _; simp [schurOk, h1, h2]
  have HF := Lib.hid (small_facts h1)
  rw [h1] at HBA
  clear h1 h2
  obtain ⟨N, rfl⟩ : ∃ N : Nat, n = (N : Int) := ⟨n.toNat, by omega⟩
  obtain ⟨hd, hpos, h8, hl16, hb1000⟩ := HF.out
  have HTL : Hid ((tabs ms N).length ≤ 5764801) := tabs_len hd h8 (by omega)
  have HOT : Hid (∀ q ∈ tabs ms N, okT8 q) := fun q hq => by
    obtain ⟨a1, a2⟩ := tabR_mem _ _ q hq
    have a3 := sum_nat hd
    have a4 := congrArg List.length a2
    rw [List.length_map, List.length_map] at a4
    exact ⟨fun r hr x hx => by have := a1 r hr x hx; omega, by rw [a2]; omega, by omega⟩
  have HAC : Hid (AccOk (accT [] (tabs ms N)) (tabs ms N).length ∧ IsL (accT [] (tabs ms N)) (schurK N ms)) := by
    refine ⟨?_, fun ps h1 h2 => schur_law hd hpos h8 (by omega) h1 h2⟩
    have := (AccOk.all hd h8 (n := (N : Int)) (by omega) (tabs ms N) (fun t h => h) AccOk.nil_ (Int.le_refl _)).1
    simpa using this
  clear hd hpos h8 hl16 hb1000
  have HGD : Hid (∀ x ∈ accT [] (tabs ms N), Ex7 x.1 ∧ x.2 ≠ 0) := fun x hx => by
    obtain ⟨a1, a2, a3, a4⟩ := HAC.out.1.ok x hx
    refine ⟨⟨a1, fun y hy => ?_⟩, by omega⟩
    obtain ⟨j, hj, rfl⟩ := List.getElem_of_mem hy
    have := a2 j
    rw [nth_lt hj] at this
    exact WalkArith.wf_i64 (by omega)
  have HEB : Hid (∀ x ∈ accT [] (tabs ms N), Ex7B x.1) := fun x hx => by
    obtain ⟨a1, a2, -⟩ := HAC.out.1.ok x hx
    exact ⟨a1, fun j _ => by have := a2 j; omega⟩
  have hmm := fun t w => run_makeMap (P := Try.prog) t w
  have HW : Hid (∀ q, Below w.heap.size w (((w.drewN q).alloc (.map #[] 0)).alloc (.cells #[.map (some w.heap.size)] 74))) := fun q => ((below_drewN (Below.refl _ w) q).alloc (Nat.le_refl _) _).alloc (by simp) _
  have HI : Hid (∀ q, SchI Unit w (w.heap.size + 1) w.heap.size (((w.drewN q).alloc (.map #[] 0)).alloc (.cells #[.map (some w.heap.size)] 74)) ([], 0) (fun k => k = w.heap.size + 1 ∨ k = w.heap.size)) := fun q =>
    ⟨fun k => Iff.rfl, by have h := BK.new ((w.drewN q).alloc (.map #[] 0)) 74 [.map (some w.heap.size)]; simpa using h, (PM.made (w.drewN q)).alloc _, HW.out q⟩
  have HCF : Hid (∀ q, Calls Try.prog 63 #[.slice A m c, .int .i64 (N : Int), .slice none 0 0, .func (.func 64) #[] #[.pointer (some ⟨w.heap.size + 1, 0, none⟩)]] (((w.drewN q).alloc (.map #[] 0)).alloc (.cells #[.map (some w.heap.size)] 74))
      (fun e w' => e = .returned (.bool true) ∧ ∃ g b, BK w' g 74 [.map (some b)] ∧ g = w.heap.size + 1 ∧ PM Unit w' b (tabs ms N).length (accT [] (tabs ms N)) ∧ Below w.heap.size w w')) := fun q => by
    obtain ⟨hd, hpos, h8, hl16, hb1000⟩ := HF.out
    refine (fill_all (schurC Unit (w0 := w) (gf := w.heap.size + 1) (b := w.heap.size) ⟨by omega, Nat.le_refl _, by omega⟩) hx hm hpos hd (by omega) hb1000 (HI.out q) (HW.out q) ⟨by have := HTL.out; simp only; omega, AccOk.nil_⟩ HOT.out).mono ?_
    rintro e w' ⟨he, O', h1, h2, h3⟩
    rw [seeT_all (fun _ _ => rfl), foldl_stepS] at he h1
    refine ⟨he, w.heap.size + 1, w.heap.size, h1.bf, rfl, ?_, h1.bel⟩
    have := h1.pm
    simpa using this
  go_enter Try.func11, Try.ntmps11
  go_wp2_with (first
    | (go_at_call 62; (with_reducible refine (HBA.out _ ?_).mono ?_); (first | exact hx | exact hx.drewN _); rintro e w' ⟨rfl, q0, rfl⟩)
    | (go_at_call 63; refine (HCF.out _).mono ?_; rintro e w3 ⟨rfl, g, b, f1, f2, f3, f4⟩; subst f2; have f5 := f1.cell (j := 0) rfl; have F3 := Lib.hid f3; have F4 := Lib.hid f4; clear f1 f3 f4)
    | (go_at_call 66; refine (closed_any F3.out ⟨HAC.out.1.srt, HGD.out⟩ HEB.out).mono ?_; rintro e w4 hcl; obtain ⟨v4, b4, rfl, hv4⟩ := closedV hcl; clear hcl)
    | fail)
  go_ret2
  obtain ⟨c1, cells, c2, c3⟩ := closed_is hv4 (fun x hx => by obtain ⟨a1, a2, -⟩ := HAC.out.1.ok x hx; exact ⟨a1, fun j _ => by have := a2 j; omega⟩) HAC.out.2
  have e : schurB ms N = shutB (schurK N ms) := by rw [schurB, HOK.out]; rfl
  refine ⟨v4, cells, by rw [e, c3]; rfl, ?_, F4.out.trans (c1.mono F4.out.size)⟩
  rw [schurR, e]
  exact OF.mono c2 F4.out.size F4.out.size
end Go.Proofs.Ytgbojgmmingfdaa

/- spec.PolyOk. -/
namespace Go.Proofs.Ytgbojgmmingfdaa
open Go.RowKit

set_option maxHeartbeats 1000000 in
theorem sPolyOk_any {A : Option Addr} {n : Nat} {ps : List (List Int × Int)} {w : World} (c : Nat) (h : RTm w A n ps) (hn : n ≤ 9223372036854775807) :
    Calls Try.prog 128 #[.slice A n c] w (Gives w (.bool (polyB ps))) := by
  have HL := Lib.hid h.1
  go_enter Try.func128, Try.ntmps128
  by_cases hbig : n ≤ 600
  case neg =>
    go_wp2
    go_ret
    refine ⟨ret_bool ?_, (by first | exact ⟨_, rfl⟩ | exact ⟨_, (World.drewN_drewN _ _ _).symm⟩ | exact Quiet.refl _ | (simp only [World.drewN_drewN]; exact ⟨_, rfl⟩))⟩
    rw [polyB, HL.out, decide_eq_false hbig]; rfl
  go_wp2
  go_loopw [3, 4] (fun i _ wr => ∃ k : Nat, k ≤ n ∧ i = .int .i64 k ∧ Quiet w wr ∧ Hid (∀ j, j < k → (termB (nthP ps j) && stepB ps j) = true)) (fun i _ _ => n - (intOf i).toNat)
  case atStart => exact ⟨0, Nat.zero_le _, rfl, (by first | exact ⟨_, rfl⟩ | exact ⟨_, (World.drewN_drewN _ _ _).symm⟩ | exact Quiet.refl _ | (simp only [World.drewN_drewN]; exact ⟨_, rfl⟩)), fun j hj => by omega⟩
  case round =>
    obtain ⟨k, hk, rfl, ⟨q, rfl⟩, HT⟩ := hrel
    by_cases hlt : k < n
    · obtain ⟨ad, hA, hq⟩ := h.2 k hlt
      obtain ⟨A', n', c', x1, x2, x3, x4⟩ := hq.cells
      subst hA
      have X3 := Lib.hid x3
      clear x3 hq
      obtain ⟨z, hz⟩ : ∃ z, z = (nthP ps k).2 := ⟨_, rfl⟩
      rw [← hz] at x2
      have hZ := Lib.hid hz
      clear hz
      have hno : Hid (termB (nthP ps k) = false → Ending.returned (.bool false) = .returned (.bool (polyB ps))) := fun h1 => ret_bool (poly_no (k := k) (by rw [HL.out]; exact hlt) (by rw [h1]; rfl)).symm
      have hlen : Hid ((nthP ps k).1.length = n') := X3.out.1
      by_cases h7 : n' = 7
      case neg =>
        have h7' : ((n' : Int) != 7) = true := by simp; omega
        go_wp2_with fail
        go_ret
        exact ⟨hno.out (by rw [termB, hlen.out, decide_eq_false h7]; rfl), (by first | exact ⟨_, rfl⟩ | exact ⟨_, (World.drewN_drewN _ _ _).symm⟩ | exact Quiet.refl _ | (simp only [World.drewN_drewN]; exact ⟨_, rfl⟩))⟩
      subst h7
      by_cases hz0 : z = 0
      · have HNO := Lib.hid (hno.out (by rw [termB, ← hZ.out, hz0]; simp))
        subst hz0
        go_wp2_with fail
        go_ret
        exact ⟨HNO.out, (by first | exact ⟨_, rfl⟩ | exact ⟨_, (World.drewN_drewN _ _ _).symm⟩ | exact Quiet.refl _ | (simp only [World.drewN_drewN]; exact ⟨_, rfl⟩))⟩
      have hz0' : (z == 0) = false := by simpa using hz0
      rcases hi : inB z (-1000000) 1000000 with _ | _
      · have HNO := Lib.hid (hno.out (by
          rw [termB, ← hZ.out]
          by_cases h1 : -1000000 ≤ z
          · have h2 : ¬ z ≤ 1000000 := fun h2 => by simp [inB, h1, h2] at hi
            rw [decide_eq_false h2]; simp
          · rw [decide_eq_false h1]; simp))
        clear hz0
        go_wp2_with (go_at_call 59; refine (l1In_any _ _ _).mono ?_; rintro e w' ⟨rfl, q0, rfl⟩)
        go_ret
        exact ⟨HNO.out, (by first | exact ⟨_, rfl⟩ | exact ⟨_, (World.drewN_drewN _ _ _).symm⟩ | exact Quiet.refl _ | (simp only [World.drewN_drewN]; exact ⟨_, rfl⟩))⟩
      have HZ : Hid (z ≠ 0 ∧ -1000000 ≤ z ∧ z ≤ 1000000) := ⟨hz0, by simp [inB] at hi; omega⟩
      clear hz0
      go_wp2_with (go_at_call 59; refine (l1In_any _ _ _).mono ?_; rintro e w' ⟨rfl, q0, rfl⟩)
      go_loopw [4] (fun i wx => ∃ j : Nat, j ≤ 7 ∧ i = .int .i64 j ∧ Quiet w wx ∧ Hid (∀ t, t < j → 0 ≤ nth (nthP ps k).1 t ∧ nth (nthP ps k).1 t ≤ 24)) (fun i _ => 7 - (intOf i).toNat)
      case atStart => exact ⟨0, Nat.zero_le _, rfl, (by first | exact ⟨_, rfl⟩ | exact ⟨_, (World.drewN_drewN _ _ _).symm⟩ | exact Quiet.refl _ | (simp only [World.drewN_drewN]; exact ⟨_, rfl⟩)), fun t ht => by omega⟩
      case round =>
        obtain ⟨j, hj, rfl, ⟨q2, rfl⟩, HJ⟩ := hrel
        by_cases hj7 : j < 7
        · obtain ⟨ae, hA, hc⟩ := X3.out.cell hj7
          subst hA
          obtain ⟨v, hv⟩ : ∃ v, v = nth (nthP ps k).1 j := ⟨_, rfl⟩
          rw [← hv] at hc
          have HV := Lib.hid hv
          clear hv
          rcases hv2 : inB v 0 24 with _ | _
          · have HNO := Lib.hid (hno.out (term_no hj7 (by rw [← HV.out]; simp [inB] at hv2 ⊢; omega)))
            go_wp2_with (go_at_call 59; refine (l1In_any _ _ _).mono ?_; rintro e w' ⟨rfl, q0, rfl⟩)
            go_ret
            exact ⟨HNO.out, (by first | exact ⟨_, rfl⟩ | exact ⟨_, (World.drewN_drewN _ _ _).symm⟩ | exact Quiet.refl _ | (simp only [World.drewN_drewN]; exact ⟨_, rfl⟩))⟩
          · have HW : Hid (0 ≤ v ∧ v ≤ 24) := by show _ ∧ _; simp [inB] at hv2; omega
            go_wp2_with (go_at_call 59; refine (l1In_any _ _ _).mono ?_; rintro e w' ⟨rfl, q0, rfl⟩)
            go_roundw
            case rel =>
              refine ⟨j + 1, by omega, by go_num, (by first | exact ⟨_, rfl⟩ | exact ⟨_, (World.drewN_drewN _ _ _).symm⟩ | exact Quiet.refl _ | (simp only [World.drewN_drewN]; exact ⟨_, rfl⟩)), fun t ht => ?_⟩
              by_cases htj : t = j
              · rw [htj, ← HV.out]; exact HW.out
              · exact HJ.out t (by omega)
            case measure => simp [intOf]; omega
        · obtain rfl : j = 7 := by omega
          have HTm : Hid (termB (nthP ps k) = true) := by
            have e1 := hlen.out
            have e2 := HZ.out
            rw [hZ.out] at e2
            show termB (nthP ps k) = true
            rw [termB, decide_eq_true e1, decide_eq_true e2.1, decide_eq_true e2.2.1, decide_eq_true e2.2.2]
            simp only [Bool.true_and, List.all_eq_true, List.mem_range]
            intro t ht
            rw [decide_eq_true (HJ.out t ht).1, decide_eq_true (HJ.out t ht).2]; rfl
          cases k with
          | zero =>
            go_wp2_with fail
            go_quiet (fail)
            go_wp2_with fail
            go_roundw
            case rel =>
              refine ⟨1, by omega, by go_num, (by first | exact ⟨_, rfl⟩ | exact ⟨_, (World.drewN_drewN _ _ _).symm⟩ | exact Quiet.refl _ | (simp only [World.drewN_drewN]; exact ⟨_, rfl⟩)), fun t ht => ?_⟩
              obtain rfl : t = 0 := by omega
              rw [HTm.out]; rfl
            case measure => simp [intOf]; omega
          | succ m =>
            obtain ⟨ad2, hA2, hq2⟩ := h.2 m (by omega)
            obtain rfl : ad = ad2 := Option.some.inj hA2
            clear hA2
            obtain ⟨A2, n2, c2, y1, y2, y3, y4⟩ := hq2.cells
            have hTm1 : termB (nthP ps m) = true := by
              have h0 := HT.out m (by omega)
              rw [Bool.and_eq_true] at h0
              exact h0.1
            have hp7 : n2 = 7 := by
              have h0 := hTm1
              rw [termB, Bool.and_eq_true] at h0
              exact y3.1.symm.trans (of_decide_eq_true h0.1)
            subst hp7
            have x128 : Ex128 (nthP ps m).1 := fun j hj => by have := term_in hTm1 hj; omega
            have y128 : Ex128 (nthP ps (m + 1)).1 := fun j hj => by have := term_in HTm.out hj; omega
            have hby := byT_key x128 y128
            obtain ⟨r1, hr1⟩ : ∃ r, r = keyL (nthP ps m).1 := ⟨_, rfl⟩
            obtain ⟨r2, hr2⟩ : ∃ r, r = keyL (nthP ps (m + 1)).1 := ⟨_, rfl⟩
            have HC1 : Hid (∀ q, Calls Try.prog 119 #[.slice A2 7 c2] (w.drewN q) (Gives (w.drewN q) (.int .i64 r1))) := fun q => by
              rw [hr1]
              exact l2Key_any _ (y3.below (below_drewN (Below.refl _ _) q)) x128
            have HC2 : Hid (∀ q, Calls Try.prog 119 #[.slice A' 7 c'] (w.drewN q) (Gives (w.drewN q) (.int .i64 r2))) := fun q => by
              rw [hr2]
              exact l2Key_any _ (X3.out.below (below_drewN (Below.refl _ _) q)) y128
            rw [← hr1, ← hr2] at hby
            have HBY := Lib.hid hby
            have hwr : IntKind.i64.wrap (((m + 1 : Nat) : Int) - 1) = (m : Int) := by rw [IntWalk.i64_in _ (by omega)]; omega
            have hpos : decide ((0 : Int) < ((m + 1 : Nat) : Int)) = true := decide_eq_true (by omega)
            clear y2 y3 y4 hq2 hr1 hr2 hby x128 y128 hTm1 x2 hi
            by_cases hs : r2 < r1
            · have hs' : decide (r1 ≤ r2) = false := decide_eq_false (by omega)
              have HSN : Hid (r2 < r1) := hs
              clear hs
              go_wp2_with fail
              go_quiet (first | (go_at_call 119; first | (with_reducible exact qcall (HC1.out _)) | (with_reducible exact qcall (HC2.out _)) | (with_reducible exact qcall_add (HC1.out _)) | (with_reducible exact qcall_add (HC2.out _))))
              go_wp2_with fail
              go_roundw
              case rel =>
                refine ⟨m + 1 + 1, by omega, by go_num, (by first | exact ⟨_, rfl⟩ | exact ⟨_, (World.drewN_drewN _ _ _).symm⟩ | exact Quiet.refl _ | (simp only [World.drewN_drewN]; exact ⟨_, rfl⟩)), fun t ht => ?_⟩
                by_cases htm : t < m + 1
                · exact HT.out t htm
                · obtain rfl : t = m + 1 := by omega
                  rw [HTm.out, Bool.true_and, stepB, Nat.add_sub_cancel, decide_eq_true (HBY.out.2 HSN.out), Bool.or_true]
              case measure => simp [intOf]; omega
            · have hs' : decide (r1 ≤ r2) = true := decide_eq_true (by omega)
              have HSP : Hid (¬ r2 < r1) := hs
              clear hs
              go_wp2_with fail
              go_quiet (first | (go_at_call 119; first | (with_reducible exact qcall (HC1.out _)) | (with_reducible exact qcall (HC2.out _)) | (with_reducible exact qcall_add (HC1.out _)) | (with_reducible exact qcall_add (HC2.out _))))
              go_wp2_with fail
              go_ret
              exact ⟨ret_bool (poly_no (k := m + 1) (by rw [HL.out]; exact hlt) (by rw [stepB, Nat.add_sub_cancel, show decide (byT (nthP ps m).1 (nthP ps (m + 1)).1 < 0) = false from decide_eq_false (fun e => by have h1 := HBY.out.1 e; have h2 := HSP.out; omega), show decide (m + 1 = 0) = false from decide_eq_false (Nat.succ_ne_zero m)]; simp)).symm, (by first | exact ⟨_, rfl⟩ | exact ⟨_, (World.drewN_drewN _ _ _).symm⟩ | exact Quiet.refl _ | (simp only [World.drewN_drewN]; exact ⟨_, rfl⟩))⟩
    · go_wp2
      go_ret
      refine ⟨ret_bool ?_, (by first | exact ⟨_, rfl⟩ | exact ⟨_, (World.drewN_drewN _ _ _).symm⟩ | exact Quiet.refl _ | (simp only [World.drewN_drewN]; exact ⟨_, rfl⟩))⟩
      rw [polyB, HL.out, decide_eq_true hbig, Bool.true_and]
      refine (List.all_eq_true.2 ?_).symm
      exact fun j hj => HT.out j (by have := List.mem_range.1 hj; omega)
end Go.Proofs.Ytgbojgmmingfdaa

/- l2Unit and l2Exp of the reference. -/
namespace Go.Proofs.Ytgbojgmmingfdaa
open Go.RowKit

theorem l2Unit_any {w : World} (i : Int) (h : 0 ≤ i ∧ i ≤ 7) : Calls Try.prog 131 #[.int .i64 i] w (Gives w (.int .i64 (128 ^ i.toNat))) := by
  have hi : i = 0 ∨ i = 1 ∨ i = 2 ∨ i = 3 ∨ i = 4 ∨ i = 5 ∨ i = 6 ∨ i = 7 := by omega
  rcases hi with rfl | rfl | rfl | rfl | rfl | rfl | rfl | rfl
  all_goals
    go_enter Try.func131, Try.ntmps131
    go_wp2
    go_ret
    exact ⟨rfl, (by first | exact ⟨_, rfl⟩ | exact ⟨_, (World.drewN_drewN _ _ _).symm⟩ | exact Quiet.refl _ | (simp only [World.drewN_drewN]; exact ⟨_, rfl⟩))⟩
set_option maxHeartbeats 1000000 in
theorem l2Exp_any {w : World} (k : Int) (h : 0 ≤ k ∧ k ≤ 9223372036854775807) : Calls Try.prog 127 #[.int .i64 k] w (Makes w (expL k)) := by
  obtain ⟨w1, e1⟩ : ∃ W, W = w.alloc (.cells #[] 3) := ⟨_, rfl⟩
  have HL : Hid (OI w1 w.heap.size (.slice (some ⟨w.heap.size, 0, none⟩) 0 0) []) := by rw [e1]; exact OI.lit w w.heap.size [] 0 rfl (Nat.le_refl _) (by simp)
  have B1 : Hid (Below w.heap.size w w1) := by rw [e1]; exact (Below.refl _ _).alloc (Nat.le_refl _) _
  have E1 := Lib.hid e1
  clear e1
  go_enter Try.func127, Try.ntmps127
  go_wp2
  have hal : w.alloc (.cells #[] 3) = w1 := E1.out.symm
  rw [hal]
  clear hal
  go_loopw [0, 3, 4] (fun kv ov iv wr => ∃ (z : Int) (i : Nat) (A : Option Addr) (n c : Nat) (l : List Int), kv = .int .i64 z ∧ ov = .slice A n c ∧ iv = .int .i64 (i : Int) ∧ i ≤ 7 ∧ 0 ≤ z ∧ z ≤ 9223372036854775807 ∧ Hid (OI wr w.heap.size (.slice A n c) l ∧ Below w.heap.size w wr ∧ l.length = i ∧ expL k = l ++ expUp (7 - i) z)) (fun _ _ iv _ => 7 - (intOf iv).toNat)
  case atStart => exact ⟨k, 0, _, _, _, [], rfl, rfl, rfl, by omega, h.1, h.2, HL.out, B1.out, rfl, rfl⟩
  case round =>
    obtain ⟨z, i, A, n, c, l, rfl, rfl, rfl, hi, hz1, hz2, HX⟩ := hrel
    by_cases hlt : i < 7
    · obtain ⟨r, hr⟩ : ∃ r, r = z % 128 := ⟨_, rfl⟩
      obtain ⟨q, hq⟩ : ∃ q, q = z / 128 := ⟨_, rfl⟩
      have hr' : Int.tmod z 128 = r := by rw [Int.tmod_eq_emod_of_nonneg hz1, hr]
      have hq' : Int.tdiv z 128 = q := by rw [Int.tdiv_eq_ediv_of_nonneg hz1, hq]
      have hw : IntKind.i64.wrap q = q := IntWalk.i64_in _ (by omega)
      have HR := Lib.hid hr
      have HQ := Lib.hid hq
      have HS : Hid (w.heap.size ≤ wr.heap.size) := HX.out.2.1.size
      have HO := Lib.hid HX.out.1
      have hl7 : Hid (l.length + 1 ≤ 1000000000000) := by have := HX.out.2.2.1; show _ ≤ _; omega
      clear hr hq
      go_wp2_with (at_builtin; refine wpApp1 rfl _ _ rfl w.heap.size (.slice A n c) l r rfl HO.out rfl hl7.out HS.out ?_; intro v' w5 o5 g5 k5)
      obtain ⟨A5, n5, c5, rfl, -⟩ := o5.form
      have HF : Hid (OI w5 w.heap.size (.slice A5 n5 c5) (l ++ [r]) ∧ Below w.heap.size w w5 ∧ (l ++ [r]).length = i + 1 ∧ expL k = (l ++ [r]) ++ expUp (7 - (i + 1)) q) := by
        obtain ⟨a1, a2, a3, a4⟩ := HX.out
        refine ⟨o5, a2.grown g5 a2.size fun k hk => (a1.lt k hk).1, by rw [List.length_append]; simpa using a3, ?_⟩
        rw [a4, show 7 - i = (7 - (i + 1)) + 1 by omega, expUp, ← HR.out, ← HQ.out]; simp
      have hq1 : 0 ≤ q ∧ q ≤ 9223372036854775807 := by have := HQ.out; omega
      clear o5 g5 k5
      go_roundw
      case rel => exact ⟨q, i + 1, A5, n5, c5, _, by first | rfl | exact congrArg (Value.int .i64) hw, rfl, by go_num, by omega, hq1.1, hq1.2, HF.out⟩
      case measure => simp [intOf]; omega
    · have HF : Hid (Makes w (expL k) (.returned (.slice A n c)) wr) := by
        obtain ⟨a1, a2, a3, a4⟩ := HX.out
        rw [show 7 - i = 0 by omega, expUp, List.append_nil] at a4
        rw [a4]
        exact Makes.of a1 a2 (by omega)
      go_wp2
      go_ret
      exact HF.out
end Go.Proofs.Ytgbojgmmingfdaa
