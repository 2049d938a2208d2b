/- StandardCount of the program. -/
import Derived.Test.YtgbojgmmingfdaaShapes
import Derived.Test.YtgbojgmmingfdaaEgR
namespace Go.Proofs.Ytgbojgmmingfdaa
open Go.RowKit

def fact : Nat → Int
  | 0 => 1
  | n + 1 => fact n * ((n : Int) + 1)
theorem fact_small : ∀ n, n ≤ 20 → 1 ≤ fact n ∧ fact n ≤ 2432902008176640000 := by decide +kernel
def hook (l : List Int) (r c : Nat) : Int := nth l r - c + nth (conjB l) c - r - 1
def rowDiv (l : List Int) (r : Nat) : Nat → Int → Int
  | 0, x => x
  | c + 1, x => (rowDiv l r c x).tdiv (hook l r c)
def allDiv (l : List Int) : Nat → Int → Int
  | 0, x => x
  | r + 1, x => rowDiv l r (nth l r).toNat (allDiv l r x)
/-- What StandardCount gives. -/
def stdB (l : List Int) : Int := if isShapeB l = true ∧ sumL l ≤ 20 then allDiv l l.length (fact (sumL l).toNat) else -1
theorem hook_pos {l : List Int} (h : isShapeB l = true) {r c : Nat} (hr : r < l.length) (hc : (c : Int) < nth l r) : 1 ≤ hook l r c ∧ hook l r c ≤ 100 ∧ 0 ≤ nth (conjB l) c ∧ nth (conjB l) c ≤ 16 ∧ c < (nth l 0).toNat := by
  have h0 := shape_down h (a := 0) (b := r) (by omega) hr
  have h16 := shape_range h r
  have hl := shape_len h
  have hc0 : c < (nth l 0).toNat := by omega
  have e : nth (conjB l) c = (above l c l.length : Int) := by
    rw [conjB_yes h, conjG, nth_gen hc0]
  have h1 : above l c (r + 1) = r + 1 := above_all fun i hi => by
    have := shape_down h (a := i) (b := r) (by omega) hr
    omega
  have h2 := above_ge (l := l) (j := (c : Int)) (m := r + 1) (k := l.length) hr
  have h3 := above_le l c l.length
  unfold hook
  rw [e]
  omega
theorem tdiv_range {x y M : Int} (h0 : 0 ≤ x) (h1 : x ≤ M) (hy : 1 ≤ y) : 0 ≤ x.tdiv y ∧ x.tdiv y ≤ M := by
  obtain ⟨a, rfl⟩ := Int.eq_ofNat_of_zero_le h0
  obtain ⟨b, rfl⟩ := Int.eq_ofNat_of_zero_le (show 0 ≤ y by omega)
  have e : (a : Int).tdiv (b : Int) = ((a / b : Nat) : Int) := rfl
  have := Nat.div_le_self a b
  rw [e]
  generalize a / b = q at this ⊢
  omega
theorem rowDiv_range {l : List Int} (h : isShapeB l = true) {r : Nat} (hr : r < l.length) {x M : Int} (h0 : 0 ≤ x) (h1 : x ≤ M) : ∀ c : Nat, (c : Int) ≤ nth l r → 0 ≤ rowDiv l r c x ∧ rowDiv l r c x ≤ M := by
  intro c
  induction c with
  | zero => intro _; exact ⟨h0, h1⟩
  | succ c ih =>
    intro hc
    have i := ih (by omega)
    exact tdiv_range i.1 i.2 (hook_pos h hr (by omega)).1
theorem allDiv_range {l : List Int} (h : isShapeB l = true) {x M : Int} (h0 : 0 ≤ x) (h1 : x ≤ M) : ∀ r : Nat, r ≤ l.length → 0 ≤ allDiv l r x ∧ allDiv l r x ≤ M := by
  intro r
  induction r with
  | zero => intro _; exact ⟨h0, h1⟩
  | succ r ih =>
    intro hr
    have i := ih (by omega)
    have := shape_range h r
    exact rowDiv_range h (by omega) i.1 i.2 _ (by omega)
theorem sumL_range {l : List Int} (h : isShapeB l = true) : 0 ≤ sumL l := by
  have : ∀ k, k ≤ l.length → 0 ≤ sumTo l k := by
    intro k
    induction k with
    | zero => intro _; exact Int.le_refl _
    | succ k ih =>
      intro hk
      have := ih (by omega)
      have := shape_range h k
      simp only [sumTo]; omega
  exact this _ (Nat.le_refl _)

theorem stdB_no {l : List Int} (h : isShapeB l = false) : stdB l = -1 := by simp [stdB, h]
theorem stdB_big {l : List Int} (h : 20 < sumL l) : stdB l = -1 := by rw [stdB, if_neg (by omega)]
theorem stdB_yes {l : List Int} (h : isShapeB l = true) (h2 : sumL l ≤ 20) : stdB l = allDiv l l.length (fact (sumL l).toNat) := by rw [stdB, if_pos ⟨h, h2⟩]

set_option maxHeartbeats 2000000 in
theorem iStd_any {A : Option Addr} {n : Nat} {l : List Int} {w : World} (c : Nat) (hx : RI w A n l) (hn : n ≤ 1000000) :
    Calls Try.prog 26 #[.slice A n c] w (GivesB w (.int .i64 (stdB l))) := by
  have HL := Lib.hid hx.1
  rcases Bool.eq_false_or_eq_true (isShapeB l) with hs | hs
  · have HS := Lib.hid hs
    have HSm := Lib.hid (small_shape hs)
    have h16 := shape_len hs
    rw [HL.out] at h16
    by_cases hbig : 20 < sumL l
    · have HB := Lib.hid (stdB_big hbig)
      go_enter Try.func26, Try.ntmps26
      go_wp2_with (first
        | (go_at_call 92; refine (iIsShape_any _ hx (by omega)).mono ?_; rintro e w' ⟨rfl, q0, rfl⟩)
        | (go_at_call 93; refine (iSum_any _ (by exact hx) HSm.out hn).mono ?_; rintro e w' ⟨rfl, q0, rfl⟩))
      go_ret
      exact ⟨by rw [HB.out]; rfl, Quiet.below ⟨_, rfl⟩⟩
    have HB := Lib.hid (stdB_yes hs (by omega))
    obtain ⟨S, hS⟩ := Int.eq_ofNat_of_zero_le (sumL_range hs)
    have hS20 : S ≤ 20 := by omega
    rw [hS, Int.toNat_natCast] at HB
    have HSum : Hid (∀ W, RI W A n l → Calls Try.prog 93 #[.slice A n c] W (Gives W (.int .i64 (S : Int)))) := fun W h => by
      rw [← hS]; exact iSum_any _ h HSm.out hn
    have hS' : ¬ (20 : Int) < (S : Int) := by omega
    clear hS hbig
    go_enter Try.func26, Try.ntmps26
    go_wp2_with (first
      | (go_at_call 92; refine (iIsShape_any _ hx (by omega)).mono ?_; rintro e w' ⟨rfl, q0, rfl⟩)
      | (go_at_call 93; refine (HSum.out _ (by exact hx)).mono ?_; rintro e w' ⟨rfl, q0, rfl⟩))
    clear hs
    go_loopw [3, 4] (fun v i wr => ∃ k : Nat, (k ≤ S ∨ k = 1) ∧ 1 ≤ k ∧ i = .int .i64 ((k : Int) + 1) ∧ v = .int .i64 (fact k) ∧ Quiet w wr) (fun _ i _ => (S + 1 - intOf i).toNat)
    case atStart => exact ⟨1, .inr rfl, by omega, rfl, rfl, (by first | exact ⟨_, rfl⟩ | exact ⟨_, (World.drewN_drewN _ _ _).symm⟩ | exact Quiet.refl _ | (simp only [World.drewN_drewN]; exact ⟨_, rfl⟩))⟩
    case round =>
      obtain ⟨k, hk, hk1, rfl, rfl, ⟨q, rfl⟩⟩ := hrel
      by_cases hlt : k < S
      · have h1 := fact_small k (by omega)
        have h2 := fact_small (k + 1) (by omega)
        have hs : fact (k + 1) = fact k * ((k : Int) + 1) := rfl
        rw [hs] at h2
        have HS2 := Lib.hid hs
        clear hs
        have hw : IntKind.i64.wrap (fact k * ((k : Int) + 1)) = fact k * ((k : Int) + 1) := IntWalk.i64_in _ (by omega)
        go_wp2_with (go_at_call 93; refine (HSum.out _ (by exact hx)).mono ?_; rintro e w' ⟨rfl, q0, rfl⟩)
        go_roundw
        case rel => exact ⟨k + 1, by omega, by omega, by go_num, by rw [HS2.out], (by first | exact ⟨_, rfl⟩ | exact ⟨_, (World.drewN_drewN _ _ _).symm⟩ | exact Quiet.refl _ | (simp only [World.drewN_drewN]; exact ⟨_, rfl⟩))⟩
        case measure => simp [intOf]; omega
      · have hf : fact k = fact S := by
          rcases hk with h | h
          · rw [show k = S by omega]
          · subst h
            have : S = 0 ∨ S = 1 := by omega
            rcases this with rfl | rfl <;> rfl
        obtain ⟨F, hF⟩ : ∃ F, F = fact S := ⟨_, rfl⟩
        rw [← hF] at hf HB
        have hFr := fact_small S hS20
        rw [← hF] at hFr
        rw [hf]
        clear hk hf hF
        go_wp2_with (go_at_call 93; refine (HSum.out _ (by exact hx)).mono ?_; rintro e w' ⟨rfl, q0, rfl⟩)
        refine (iConj_any _ (hx.below (Quiet.below ⟨_, rfl⟩)) (by omega)).mono ?_
        rintro e w1 ⟨A1, n1, c1, rfl, o1, r1, cp1, b1⟩
        have g1 : Below w.heap.size w w1 := bnext (Quiet.below ⟨_, rfl⟩) b1 (by simp)
        have hx1 := hx.below g1
        clear b1
        go_wp2
        go_loopw [3, 30] (fun v i wr => ∃ r : Nat, r ≤ n ∧ i = .int .i64 (r : Int) ∧ v = .int .i64 (allDiv l r F) ∧ Quiet w1 wr) (fun _ i _ => n - (intOf i).toNat)
        case atStart => exact ⟨0, Nat.zero_le _, rfl, rfl, (by first | exact ⟨_, rfl⟩ | exact ⟨_, (World.drewN_drewN _ _ _).symm⟩ | exact Quiet.refl _ | (simp only [World.drewN_drewN]; exact ⟨_, rfl⟩))⟩
        case round =>
          obtain ⟨r, hr, rfl, rfl, ⟨q, rfl⟩⟩ := hrel
          by_cases hrn : r < n
          · obtain ⟨ad, hA, hc⟩ := hx1.cell hrn
            subst hA
            have hrg := shape_range HS.out r
            have hD := allDiv_range HS.out (x := F) (M := 2432902008176640000) (by omega) (by omega) r (by rw [HL.out]; omega)
            have hE : Hid (allDiv l (r + 1) F = rowDiv l r (nth l r).toNat (allDiv l r F)) := rfl
            have HP : Hid (∀ c : Nat, (c : Int) < nth l r → 1 ≤ hook l r c ∧ hook l r c ≤ 100 ∧ 0 ≤ nth (conjB l) c ∧ nth (conjB l) c ≤ 16 ∧ c < (nth l 0).toNat) := fun c hc => hook_pos HS.out (by rw [HL.out]; exact hrn) hc
            have HRG : Hid (∀ (x : Int) (c : Nat), 0 ≤ x → x ≤ 2432902008176640000 → (c : Int) ≤ nth l r → 0 ≤ rowDiv l r c x ∧ rowDiv l r c x ≤ 2432902008176640000) := fun x c h0 h1 hc => rowDiv_range HS.out (by rw [HL.out]; exact hrn) h0 h1 c hc
            obtain ⟨X, hX⟩ := Int.eq_ofNat_of_zero_le hrg.1
            have HHK : Hid (∀ c : Nat, hook l r c = (X : Int) - c + nth (conjB l) c - r - 1) := fun c => by rw [hook, hX]
            rw [hX] at hc hrg HP HRG
            rw [hX, Int.toNat_natCast] at hE
            obtain ⟨D, hD2⟩ : ∃ D, D = allDiv l r F := ⟨_, rfl⟩
            rw [← hD2] at hD hE ⊢
            clear hX hD2
            go_wp2
            go_loopw [3, 36] (fun v i wr => ∃ k : Nat, k ≤ X ∧ i = .int .i64 (k : Int) ∧ v = .int .i64 (rowDiv l r k D) ∧ Quiet w1 wr) (fun _ i _ => X - (intOf i).toNat)
            case atStart => exact ⟨0, Nat.zero_le _, rfl, rfl, (by first | exact ⟨_, rfl⟩ | exact ⟨_, (World.drewN_drewN _ _ _).symm⟩ | exact Quiet.refl _ | (simp only [World.drewN_drewN]; exact ⟨_, rfl⟩))⟩
            case round =>
              obtain ⟨k, hk, rfl, rfl, ⟨q2, rfl⟩⟩ := hrel
              by_cases hkX : k < X
              · obtain ⟨p1, p2, p3, p4, p5⟩ := HP.out k (by omega)
                have hk5 : k < n1 := by rw [← r1.1]; have := conjB_yes HS.out; rw [this, conjG_len]; exact p5
                obtain ⟨ad2, hA2, hc2⟩ := r1.cell hk5
                subst hA2
                have hV := HRG.out D k hD.1 hD.2 (by omega)
                have HN : Hid (rowDiv l r (k + 1) D = (rowDiv l r k D).tdiv (hook l r k)) := rfl
                rw [HHK.out k] at HN p1 p2
                obtain ⟨y, hy⟩ : ∃ y, y = nth (conjB l) k := ⟨_, rfl⟩
                rw [← hy] at hc2 p1 p2 p3 p4 HN
                obtain ⟨V, hV2⟩ : ∃ V, V = rowDiv l r k D := ⟨_, rfl⟩
                rw [← hV2] at hV HN ⊢
                clear hy hV2
                have hne : ((X : Int) - k + y - r - 1 == 0) = false := by simp; omega
                go_wp2
                go_roundw
                case rel => exact ⟨k + 1, by omega, by go_num, by rw [HN.out, Int.tdiv_eq_ediv_of_nonneg hV.1], (by first | exact ⟨_, rfl⟩ | exact ⟨_, (World.drewN_drewN _ _ _).symm⟩ | exact Quiet.refl _ | (simp only [World.drewN_drewN]; exact ⟨_, rfl⟩))⟩
                case measure => simp [intOf]; omega
              · obtain rfl : k = X := by omega
                go_wp2
                go_roundw
                case rel => exact ⟨r + 1, by omega, by go_num, by rw [hE.out], (by first | exact ⟨_, rfl⟩ | exact ⟨_, (World.drewN_drewN _ _ _).symm⟩ | exact Quiet.refl _ | (simp only [World.drewN_drewN]; exact ⟨_, rfl⟩))⟩
                case measure => simp [intOf]; omega
          · obtain rfl : r = n := by omega
            go_wp2
            go_ret
            exact ⟨by rw [HB.out, HL.out]; rfl, below_drewN g1 _⟩
  · have HB := Lib.hid (stdB_no hs)
    go_enter Try.func26, Try.ntmps26
    go_wp2_with (go_at_call 92; refine (iIsShape_any _ hx (by omega)).mono ?_; rintro e w' ⟨rfl, q0, rfl⟩)
    go_ret
    exact ⟨by rw [HB.out]; rfl, Quiet.below ⟨_, rfl⟩⟩
end Go.Proofs.Ytgbojgmmingfdaa

/- What the law of Edelman and Greene says of one permutation and one reduced word, in plain words. -/
namespace Go.Proofs.Ytgbojgmmingfdaa
open Go.RowKit

/-- Whether a new value goes with those found. -/
def okAt (w p vals : List Int) (i : Nat) : Bool := (List.range vals.length).all fun j => decide (nth vals j < nth w i) == decide (nth p j < nth p vals.length)
/-- holds of the program: whether the values found go on to a pattern. -/
def holdB : Nat → List Int → List Int → Nat → List Int → Bool
  | 0, _, p, _, vals => decide (vals.length = p.length)
  | f + 1, w, p, a, vals => if vals.length = p.length then true else (List.range w.length).any fun i => decide (a ≤ i) && (okAt w p vals i && holdB f w p (i + 1) (vals ++ [nth w i]))
def vexB (w : List Int) : Bool := permB w && !(holdB 4 w [1, 0, 3, 2] 0 [])
/-- A tableau that is right. -/
def tabB (T : List (List Int)) : Bool := isShapeB (shapeT T) && (List.range T.length).all fun i => (List.range (nthL T i).length).all fun j =>
  decide (0 ≤ nth (nthL T i) j) && decide (nth (nthL T i) j ≤ 20) && (j == 0 || decide (nth (nthL T i) (j - 1) ≤ nth (nthL T i) j)) && (i == 0 || decide (nth (nthL T (i - 1)) j < nth (nthL T i) j))
def hasSh (ps : List (List Int × Int)) (s : List Int) : Bool := ps.any fun x => decide (x.1 = s)
def readT (T : List (List Int)) : List Int := T.reverse.flatten
def chkV (w : List Int) (ps : List (List Int × Int)) (v : List Int) : Bool :=
  tabB (egT v) && tabB (egQ v v.length) && decide (shapeT (egT v) = shapeT (egQ v v.length)) && hasSh ps (shapeT (egT v)) && decide (playL (idn w.length) (readT (egT v)) = w)
def sumC (ps : List (List Int × Int)) : Int := (ps.map fun x => x.2).sum
def sumS (ps : List (List Int × Int)) : Int := (ps.map fun x => x.2 * stdB x.1).sum
def chkS (w : List Int) (ps : List (List Int × Int)) (n : Nat) : Bool := decide (sumS ps = (n : Int)) && (decide (sumC ps = 1) == vexB w)
def chkW (w : List Int) : Bool :=
  chkS w (stanS (distT (redI 21 w))) (redI 21 w).length && (redI 21 w).all (chkV w (stanS (distT (redI 21 w))))
/-- All lists of some numbers below m. -/
def tup (m : Nat) : Nat → List (List Int)
  | 0 => [[]]
  | k + 1 => (List.range m).flatMap fun (x : Nat) => (tup m k).map (((x : Nat) : Int) :: ·)
theorem tup_mem {m : Nat} : ∀ {l : List Int}, (∀ x ∈ l, 0 ≤ x ∧ x < m) → l ∈ tup m l.length
  | [], _ => by simp [tup]
  | x :: l, h => by
    have h0 := h x (by simp)
    rw [List.length_cons, tup, List.mem_flatMap]
    refine ⟨x.toNat, List.mem_range.2 (by omega), List.mem_map.2 ⟨l, tup_mem fun y hy => h y (List.mem_cons_of_mem _ hy), ?_⟩⟩
    congr 1
    omega
end Go.Proofs.Ytgbojgmmingfdaa
