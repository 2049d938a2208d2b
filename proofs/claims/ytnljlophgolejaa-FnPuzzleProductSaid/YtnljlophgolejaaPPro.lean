/- PuzzleProduct of the program. -/
import Derived.Test.YtnljlophgolejaaSeeP
import Derived.Test.YtnljlophgolejaaCountI
namespace Go.Proofs.Ytnljlophgolejaa
open Go.RowKit

/-- Parts and a word whether they are asked for, made. -/
def MakesPB (w : World) (ps : List (List Int × Int)) (ok : Bool) : Ending → World → Prop := fun e w' =>
  ∃ A n c cells, e = .returned (.tuple #[.slice A n c, .bool ok]) ∧ OP w' w.heap.size w.heap.size (.slice A n c) ps cells ∧ ps.length = n ∧ (n ≤ c ∧ c ≤ 9223372036854775807) ∧ Below w.heap.size w w'
theorem MakesPB.of {w w' : World} {v : Value} {ps : List (List Int × Int)} {cells : List Value} {ok : Bool} (h : OP w' w.heap.size w.heap.size v ps cells) (hb : Below w.heap.size w w') : MakesPB w ps ok (.returned (.tuple #[v, .bool ok])) w' := by
  obtain ⟨A, n, c, rfl, h1, h2, h3⟩ := h.form
  exact ⟨A, n, c, cells, rfl, h, h1, ⟨h2, h3⟩, hb⟩
/-- The product of two strings by puzzles. -/
def ppB (a b : List Int) : List (List Int × Int) := if alikeB a b = true then (spAll false a b).foldl (proS a.length fun _ => 1) [] else []

set_option maxRecDepth 100000 in
set_option maxHeartbeats 1000000 in
theorem iPPro_any {Aa Ab : Option Addr} {na nb : Nat} {a b : List Int} {w : World} (ca cb : Nat) (ha : RI w Aa na a) (hb : RI w Ab nb b) (hna : na ≤ 1000000000) (hnb : nb ≤ 1000000000) :
    Calls Try.prog 25 #[.slice Aa na ca, .slice Ab nb cb] w (MakesPB w (ppB a b) (alikeB a b)) := by
  have HA := Lib.hid ha
  have HB := Lib.hid hb
  obtain ⟨t1, ht1⟩ : ∃ t, t = alikeB a b := ⟨_, rfl⟩
  have H1 : Hid (∀ W, Below w.heap.size w W → Calls Try.prog 56 #[.slice Aa na ca, .slice Ab nb cb] W (Gives W (.bool t1))) := fun W bW => by rw [ht1]; exact iAlike_any _ _ (HA.out.below bW) (HB.out.below bW) hna hnb
  have HT1 := Lib.hid ht1
  clear ht1 ha hb
  rcases t1 with _ | _
  · have HE : Hid (ppB a b = []) := by show _ = _; rw [ppB, if_neg (by rw [← HT1.out]; simp)]
    go_enter Try.func25, Try.ntmps25
    go_wp2_with (go_at_call 56; (with_reducible refine (H1.out _ ?_).mono ?_); (exact Below.refl _ _); rintro e w' ⟨rfl, q1, rfl⟩)
    go_ret2
    rw [HE.out, ← HT1.out]
    exact MakesPB.of (OF.nil_ _ _ _ _ _) (Quiet.below ⟨_, rfl⟩)
  obtain ⟨h1, h2, h3, h4⟩ := alike_str HT1.out.symm
  have hl7 := (isStrB_iff.1 h1).1
  have hna2 : a.length = na := HA.out.1
  have hnn : nb = na := by rw [← HB.out.1, ← h3, hna2]
  subst hnn
  have HE : Hid (ppB a b = (spAll false a b).foldl (proS nb fun _ => 1) []) := by show _ = _; rw [ppB, if_pos HT1.out.symm, hna2]
  have HS1 := Lib.hid h1
  have HOK : Hid (∀ q ∈ tlAll false a b, okP nb q) := by have := tl_okP (wt := false) HT1.out.symm; rw [hna2] at this; exact this
  have hn17 : 1 ≤ nb ∧ nb ≤ 7 := by omega
  clear h1 h2 h3 h4 hl7 hna2
  go_enter Try.func25, Try.ntmps25
  go_wp2_with (go_at_call 56; (with_reducible refine (H1.out _ ?_).mono ?_); (exact Below.refl _ _); rintro e w' ⟨rfl, q1, rfl⟩)
  obtain ⟨wy, ewy⟩ : ∃ W : World, W = (w.drewN q1).alloc (.cells #[] 62) := ⟨_, rfl⟩
  have by_ : Below w.heap.size w wy := by rw [ewy]; exact (below_drewN (Below.refl _ _) _).alloc (Nat.le_refl _) _
  have oy : OP wy w.heap.size w.heap.size (.slice (some ⟨w.heap.size, 0, none⟩) 0 0) [] [] := by rw [ewy]; exact OP.lit (w.drewN q1) _ _ (Nat.le_refl _)
  have hsy : wy.heap.size = w.heap.size + 1 := by rw [ewy]; show ((w.drewN q1).alloc _).heap.size = _; simp
  obtain ⟨wz, ewz⟩ : ∃ W : World, W = wy.alloc (.cells #[.slice (some ⟨w.heap.size, 0, none⟩) 0 0] 33) := ⟨_, rfl⟩
  have bz : Below w.heap.size w wz := by rw [ewz]; exact by_.alloc by_.size _
  have oz : OP wz w.heap.size w.heap.size (.slice (some ⟨w.heap.size, 0, none⟩) 0 0) [] [] := by rw [ewz]; exact OP.below oy ((Below.refl _ _).alloc (Nat.le_refl _) _)
  have kz : BK wz (w.heap.size + 1) 33 [.slice (some ⟨w.heap.size, 0, none⟩) 0 0] := by rw [ewz, ← hsy]; exact BK.new wy _ _
  rw [← ewy, ← ewz]
  clear ewy by_ oy hsy ewz
  have hI : ProI w [] (w.heap.size + 1) wz [] (fun k => k = w.heap.size + 1 ∨ k = w.heap.size) := ⟨⟨_, [], fun k => by simp [Value.ownBlock]; omega, kz, oz⟩, fun _ h => by simp at h, bz⟩
  have hlen : (tlAll false a b).length ≤ 268435456 := by rw [tlAll_eq HS1.out]; exact spAll_len7 HS1.out
  refine (tilings_any (n := nb) false w a b Aa Ab ca cb (proC (n := nb) (Nat.le_succ _)) hn17.2 hn17.1 HA.out HB.out hI bz ⟨0, by simp [Srt], by simp, by simp, by omega, by omega, by simp⟩ HOK.out).mono ?_
  rintro e w3 ⟨rfl, O', i3, -, -⟩
  rw [seeAll_all (fun _ _ => rfl), tlAll_eq HS1.out, ← HE.out] at i3
  obtain ⟨v, cells, -, k3, o3⟩ := i3.ex
  obtain ⟨A3, n3, c3, rfl, -, -, -⟩ := o3.form
  have g3 := k3.cell (j := 0) rfl
  have HF : Hid (MakesPB w (ppB a b) (alikeB a b) (.returned (.tuple #[.slice A3 n3 c3, .bool true])) w3) := by rw [← HT1.out]; exact MakesPB.of o3 i3.bel
  clear i3 hlen hI bz kz oz k3 o3
  go_wp2
  go_ret2
  exact HF.out
end Go.Proofs.Ytnljlophgolejaa
