/- CountReduced and ReducedWords of the program. -/
import Derived.Test.YtgbojgmmingfdaaCountW
namespace Go.Proofs.Ytgbojgmmingfdaa
open Go.RowKit Go.WideMaps Go.Maps

def countRB (l : List Int) : Int := if permB l then (wordsN l : Int) else -1
set_option maxRecDepth 100000 in
set_option maxHeartbeats 1000000 in
theorem iCountRed_any {A : Option Addr} {n : Nat} {l : List Int} {w : World} (c : Nat) (hx : RI w A n l) (hn : n ≤ 1000000000) :
    Calls Try.prog 28 #[.slice A n c] w (GivesB w (.int .i64 (countRB l))) := by
  have hmm := fun t w => run_makeMap (P := Try.prog) t w
  have HIS : Hid (Calls Try.prog 94 #[.slice A n c] w (GivesB w (.bool (permB l)))) := isPerm_any (w := w) c hx hn
  rcases hp : permB l with _ | _
  · have HE : Hid (countRB l = -1) := by show _ = _; rw [countRB, hp]; rfl
    rw [hp] at HIS
    go_enter Try.func28, Try.ntmps28
    go_wp2_with (first | (go_at_call 94; refine HIS.out.mono ?_; rintro e w1 ⟨rfl, b1⟩) | fail)
    go_ret
    exact ⟨by rw [HE.out]; rfl, b1⟩
  · have HE : Hid (countRB l = wordsN l) := by show _ = _; rw [countRB, hp]; rfl
    have HCT : Hid (∀ W, Below w.heap.size w W → Calls Try.prog 95 #[.slice A n c, .map (some W.heap.size)] (W.alloc (.map #[] 0)) (GivesB W (.int .i64 (wordsN l)))) := fun W bW => by
      have hb2 : Below W.heap.size W (W.alloc (.map #[] 0)) := (Below.refl _ _).alloc (Nat.le_refl _) _
      have hpn : putsN 21 ≤ 1000000000000000000 := by decide
      have h := counted_any Unit 21 (W.alloc (.map #[] 0)) A n c l W.heap.size 0 (.map []) (hx.below (bW.trans (hb2.mono bW.size))) hp (fin_21 (permB_size hp).2) (Nat.le_refl _) (World.ownsMap_made _ _ _ _) (fun v _ _ hh => by simp [Maps.has] at hh) (by omega)
      refine h.mono ?_
      rintro e w' ⟨rfl, m', D', -, -, -, g4⟩
      exact ⟨rfl, hb2.grown g4 hb2.size fun k hk => by injection hk; omega⟩
    rw [hp] at HIS
    clear hx hp
    go_enter Try.func28, Try.ntmps28
    go_wp2_with (first
      | (go_at_call 94; refine HIS.out.mono ?_; rintro e w1 ⟨rfl, b1⟩; have B1 := Lib.hid b1)
      | (go_at_call 95; refine (HCT.out _ B1.out).mono ?_; rintro e w2 ⟨rfl, b2⟩)
      | fail)
    go_ret
    exact ⟨by rw [HE.out]; rfl, bnext B1.out b2 B1.out.size⟩
/-- A slice of slices and a bool. -/
def MakesSb (w : World) (ls : List (List Int)) (ok : Bool) : Ending → World → Prop := fun e w' =>
  ∃ A n c cells, e = .returned (.tuple #[.slice A n c, .bool ok]) ∧ OS w' w.heap.size w.heap.size (.slice A n c) ls cells ∧ ls.length = n ∧ (n ≤ c ∧ c ≤ 9223372036854775807) ∧ Below w.heap.size w w'
def redOk (l : List Int) : Bool := permB l && decide (wordsN l ≤ 800)
def redB (l : List Int) : List (List Int) := if redOk l then redI 21 l else []
set_option maxRecDepth 100000 in
set_option maxHeartbeats 1000000 in
theorem iRed_any {A : Option Addr} {n : Nat} {l : List Int} {w : World} (c : Nat) (hx : RI w A n l) (hn : n ≤ 1000000000) :
    Calls Try.prog 75 #[.slice A n c] w (MakesSb w (redB l) (redOk l)) := by
  have HCR : Hid (Calls Try.prog 28 #[.slice A n c] w (GivesB w (.int .i64 (countRB l)))) := iCountRed_any c hx hn
  obtain ⟨z, hz⟩ : ∃ z, z = countRB l := ⟨_, rfl⟩
  rw [← hz] at HCR
  have HZ := Lib.hid hz
  have HX := Lib.hid hx
  clear hz hx
  by_cases h0 : z < 0
  · have HE : Hid (redOk l = false) := by
      show _ = _
      have h := HZ.out
      rw [countRB] at h
      split at h
      · omega
      · rename_i hp
        simp only [Bool.not_eq_true] at hp
        rw [redOk, hp]; rfl
    have h0' : decide (z < 0) = true := decide_eq_true h0
    clear h0
    go_enter Try.func75, Try.ntmps75
    go_wp2_with (first | (go_at_call 28; refine HCR.out.mono ?_; rintro e w1 ⟨rfl, b1⟩) | fail)
    go_ret2
    rw [redB, HE.out]
    exact ⟨_, _, _, [], rfl, OF.nil_ _ _ _ _ _, rfl, by omega, b1⟩
  · have HP : Hid (permB l = true ∧ z = wordsN l) := by
      have h := HZ.out
      rw [countRB] at h
      split at h
      · rename_i hp; exact ⟨hp, h⟩
      · omega
    have h0' : decide (z < 0) = false := decide_eq_false h0
    by_cases h8 : 800 < z
    · have HE : Hid (redOk l = false) := by
        show _ = _
        rw [redOk, HP.out.1, decide_eq_false (by have := HP.out.2; omega)]; rfl
      have h8' : decide (800 < z) = true := decide_eq_true h8
      clear h0 h8
      go_enter Try.func75, Try.ntmps75
      go_wp2_with (first | (go_at_call 28; refine HCR.out.mono ?_; rintro e w1 ⟨rfl, b1⟩) | fail)
      go_ret2
      rw [redB, HE.out]
      exact ⟨_, _, _, [], rfl, OF.nil_ _ _ _ _ _, rfl, by omega, b1⟩
    · have HE : Hid (redOk l = true) := by
        show _ = _
        rw [redOk, HP.out.1, decide_eq_true (by have := HP.out.2; omega)]; rfl
      have h8' : decide (800 < z) = false := decide_eq_false h8
      have HAR : Hid (∀ W, Below w.heap.size w W → Calls Try.prog 145 #[.slice A n c] W (MakesS W (redI 21 l))) := fun W bW =>
        allRed_any 21 W A n c l (HX.out.below bW) HP.out.1 (fin_21 (permB_size HP.out.1).2) (by have := HP.out.2; unfold wordsN at this; omega)
      clear h0 h8
      go_enter Try.func75, Try.ntmps75
      go_wp2_with (first
        | (go_at_call 28; refine HCR.out.mono ?_; rintro e w1 ⟨rfl, b1⟩; have B1 := Lib.hid b1)
        | (go_at_call 145; refine (HAR.out _ B1.out).mono ?_; rintro e w2 ⟨A2, n2, c2, cs, rfl, o2, l2, q2, b2⟩)
        | fail)
      go_ret2
      rw [redB, HE.out]
      exact ⟨_, _, _, cs, rfl, OF.mono o2 B1.out.size B1.out.size, l2, q2, bnext B1.out b2 B1.out.size⟩
end Go.Proofs.Ytgbojgmmingfdaa
