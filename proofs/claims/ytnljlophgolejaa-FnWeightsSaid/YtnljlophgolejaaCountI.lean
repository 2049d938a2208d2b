/- CountPuzzles of the program. -/
import Derived.Test.YtnljlophgolejaaCnt
import Derived.Test.YtnljlophgolejaaSeeP
namespace Go.Proofs.Ytnljlophgolejaa
open Go.RowKit

/-- The number of puzzles with three sides. -/
def cntPz (a b c : List Int) : Int := if alikeB a b = true ∧ alikeB a c = true then (spAll false a b).foldl (cntS a.length c) 0 else -1
theorem tl_okP {wt : Bool} {a b : List Int} (h : alikeB a b = true) : ∀ q ∈ tlAll wt a b, okP a.length q := fun q hq => by
  obtain ⟨h1, h2, h3, -⟩ := alike_str h
  exact puz_wt (Good.puz h1 h2 h3 (tlAll_good h1 q hq))

set_option maxRecDepth 100000 in
set_option maxHeartbeats 1000000 in
theorem iCount_any {Aa Ab Ac : Option Addr} {na nb nc : Nat} {a b c : List Int} {w : World} (ca cb cc : Nat) (ha : RI w Aa na a) (hb : RI w Ab nb b) (hc : RI w Ac nc c) (hna : na ≤ 1000000000) (hnb : nb ≤ 1000000000) (hnc : nc ≤ 1000000000) :
    Calls Try.prog 14 #[.slice Aa na ca, .slice Ab nb cb, .slice Ac nc cc] w (GivesB w (.int .i64 (cntPz a b c))) := by
  have HA := Lib.hid ha
  have HB := Lib.hid hb
  have HC := Lib.hid hc
  obtain ⟨t1, ht1⟩ : ∃ t, t = alikeB a b := ⟨_, rfl⟩
  obtain ⟨t2, ht2⟩ : ∃ t, t = alikeB a c := ⟨_, rfl⟩
  have H1 : Hid (∀ W, Below w.heap.size w W → Calls Try.prog 56 #[.slice Aa na ca, .slice Ab nb cb] W (Gives W (.bool t1))) := fun W bW => by rw [ht1]; exact iAlike_any _ _ (HA.out.below bW) (HB.out.below bW) hna hnb
  have H2 : Hid (∀ W, Below w.heap.size w W → Calls Try.prog 56 #[.slice Aa na ca, .slice Ac nc cc] W (Gives W (.bool t2))) := fun W bW => by rw [ht2]; exact iAlike_any _ _ (HA.out.below bW) (HC.out.below bW) hna hnc
  have HT1 := Lib.hid ht1
  have HT2 := Lib.hid ht2
  have bx : Below w.heap.size w (w.alloc (.cells #[.slice Ac nc cc] 22)) := (Below.refl _ _).alloc (Nat.le_refl _) _
  have HBX := Lib.hid bx
  clear ht1 ht2 ha hb hc bx
  rcases t1 with _ | _
  · have HE : Hid (cntPz a b c = -1) := by show _ = _; rw [cntPz, if_neg (by rw [← HT1.out]; simp)]
    go_enter Try.func14, Try.ntmps14
    go_wp2_with (first
      | (go_at_call 56; (with_reducible refine (H1.out _ ?_).mono ?_); (exact HBX.out); rintro e w' ⟨rfl, q1, rfl⟩))
    go_ret
    exact ⟨by rw [HE.out]; rfl, below_drewN HBX.out _⟩
  rcases t2 with _ | _
  · have HE : Hid (cntPz a b c = -1) := by show _ = _; rw [cntPz, if_neg (by rw [← HT2.out]; simp)]
    go_enter Try.func14, Try.ntmps14
    go_wp2_with (first
      | (go_at_call 56; (with_reducible refine (H1.out _ ?_).mono ?_); (exact HBX.out); rintro e w' ⟨rfl, q1, rfl⟩)
      | (go_at_call 56; (with_reducible refine (H2.out _ ?_).mono ?_); (exact below_drewN HBX.out _); rintro e w' ⟨rfl, q2, rfl⟩))
    go_ret
    exact ⟨by rw [HE.out]; rfl, below_drewN HBX.out _⟩
  obtain ⟨h1, h2, h3, h4⟩ := alike_str HT1.out.symm
  have hl7 := (isStrB_iff.1 h1).1
  have hna2 : a.length = na := HA.out.1
  have hnb2 : b.length = na := by rw [← h3, hna2]
  have hnn : nb = na := by rw [← HB.out.1, hnb2]
  subst hnn
  have HE : Hid (cntPz a b c = (spAll false a b).foldl (cntS nb c) 0) := by show _ = _; rw [cntPz, if_pos ⟨HT1.out.symm, HT2.out.symm⟩, hna2]
  have HS1 := Lib.hid h1
  have HOK : Hid (∀ q ∈ tlAll false a b, okP nb q) := by have := tl_okP (wt := false) HT1.out.symm; rw [hna2] at this; exact this
  have hn17 : 1 ≤ nb ∧ nb ≤ 7 := by omega
  clear h1 h2 h3 h4 hl7 hna2 hnb2
  go_enter Try.func14, Try.ntmps14
  go_wp2_with (first
    | (go_at_call 56; (with_reducible refine (H1.out _ ?_).mono ?_); (exact HBX.out); rintro e w' ⟨rfl, q1, rfl⟩)
    | (go_at_call 56; (with_reducible refine (H2.out _ ?_).mono ?_); (exact below_drewN HBX.out _); rintro e w' ⟨rfl, q2, rfl⟩))
  obtain ⟨wy, ewy⟩ : ∃ W : World, W = (w.alloc (.cells #[.slice Ac nc cc] 22)).drewN (q1 + q2) := ⟨_, rfl⟩
  have by_ : Below w.heap.size w wy := by rw [ewy]; exact below_drewN HBX.out _
  have ky : BK wy w.heap.size 22 [.slice Ac nc cc] := by rw [ewy]; exact BK.new w _ _
  have hsy : wy.heap.size = w.heap.size + 1 := by rw [ewy]; show (w.alloc _).heap.size = _; simp
  obtain ⟨wz, ewz⟩ : ∃ W : World, W = wy.alloc (.cells #[.int .i64 0] 3) := ⟨_, rfl⟩
  have bz : Below w.heap.size w wz := by rw [ewz]; exact by_.alloc by_.size _
  have kz1 : BK wz w.heap.size 22 [.slice Ac nc cc] := by rw [ewz]; exact ky.alloc _
  have kz2 : BK wz (w.heap.size + 1) 3 [.int .i64 0] := by rw [ewz, ← hsy]; exact BK.new wy _ _
  rw [← ewy, ← ewz]
  clear ewy by_ ky hsy ewz
  have hI : CntI w w.heap.size (w.heap.size + 1) Ac nc cc wz 0 (fun k => k = w.heap.size ∨ k = w.heap.size + 1) := ⟨fun _ => Iff.rfl, kz1, kz2, bz⟩
  have hlen : (tlAll false a b).length ≤ 268435456 := by rw [tlAll_eq HS1.out]; exact spAll_len7 HS1.out
  refine (tilings_any (n := nb) false w a b Aa Ab ca cb (cntC (n := nb) (c := c) HC.out hnc ⟨Nat.le_refl _, by omega, by omega⟩) hn17.2 hn17.1 HA.out HB.out hI bz ⟨by omega, by omega⟩ HOK.out).mono ?_
  rintro e w3 ⟨rfl, O', i3, -, -⟩
  rw [seeAll_all (fun _ _ => rfl), tlAll_eq HS1.out, ← HE.out] at i3
  have g3 := i3.bn.cell (j := 0) rfl
  have b3 := Lib.hid i3.bel
  clear i3 hlen hI bz kz1 kz2
  go_wp2
  go_ret
  exact ⟨rfl, b3.out⟩
end Go.Proofs.Ytnljlophgolejaa

/- PuzzleProduct of the program. -/
namespace Go.Proofs.Ytnljlophgolejaa
open Go.RowKit

/-- Parts and a word whether they are asked for, made. -/
def MakesPB (w : World) (ps : List (List Int × Int)) (ok : Bool) : Ending → World → Prop := fun e w' =>
  ∃ A n c cells, e = .returned (.tuple #[.slice A n c, .bool ok]) ∧ OP w' w.heap.size w.heap.size (.slice A n c) ps cells ∧ ps.length = n ∧ (n ≤ c ∧ c ≤ 9223372036854775807) ∧ Below w.heap.size w w'
theorem MakesPB.of {w w' : World} {v : Value} {ps : List (List Int × Int)} {cells : List Value} {ok : Bool} (h : OP w' w.heap.size w.heap.size v ps cells) (hb : Below w.heap.size w w') : MakesPB w ps ok (.returned (.tuple #[v, .bool ok])) w' := by
  obtain ⟨A, n, c, rfl, h1, h2, h3⟩ := h.form
  exact ⟨A, n, c, cells, rfl, h, h1, ⟨h2, h3⟩, hb⟩
/-- The product of two strings by puzzles. -/
def ppB (a b : List Int) : List (List Int × Int) := if alikeB a b = true then (spAll false a b).foldl (proS a.length fun _ => 1) [] else []

set_option maxRecDepth 100000 in
set_option maxHeartbeats 1000000 in
theorem iPPro_any {Aa Ab : Option Addr} {na nb : Nat} {a b : List Int} {w : World} (ca cb : Nat) (ha : RI w Aa na a) (hb : RI w Ab nb b) (hna : na ≤ 1000000000) (hnb : nb ≤ 1000000000) :
    Calls Try.prog 25 #[.slice Aa na ca, .slice Ab nb cb] w (MakesPB w (ppB a b) (alikeB a b)) := by
  have HA := Lib.hid ha
  have HB := Lib.hid hb
  obtain ⟨t1, ht1⟩ : ∃ t, t = alikeB a b := ⟨_, rfl⟩
  have H1 : Hid (∀ W, Below w.heap.size w W → Calls Try.prog 56 #[.slice Aa na ca, .slice Ab nb cb] W (Gives W (.bool t1))) := fun W bW => by rw [ht1]; exact iAlike_any _ _ (HA.out.below bW) (HB.out.below bW) hna hnb
  have HT1 := Lib.hid ht1
  clear ht1 ha hb
  rcases t1 with _ | _
  · have HE : Hid (ppB a b = []) := by show _ = _; rw [ppB, if_neg (by rw [← HT1.out]; simp)]
    go_enter Try.func25, Try.ntmps25
    go_wp2_with (go_at_call 56; (with_reducible refine (H1.out _ ?_).mono ?_); (exact Below.refl _ _); rintro e w' ⟨rfl, q1, rfl⟩)
    go_ret2
    rw [HE.out, ← HT1.out]
    exact MakesPB.of (OF.nil_ _ _ _ _ _) (Quiet.below ⟨_, rfl⟩)
  obtain ⟨h1, h2, h3, h4⟩ := alike_str HT1.out.symm
  have hl7 := (isStrB_iff.1 h1).1
  have hna2 : a.length = na := HA.out.1
  have hnn : nb = na := by rw [← HB.out.1, ← h3, hna2]
  subst hnn
  have HE : Hid (ppB a b = (spAll false a b).foldl (proS nb fun _ => 1) []) := by show _ = _; rw [ppB, if_pos HT1.out.symm, hna2]
  have HS1 := Lib.hid h1
  have HOK : Hid (∀ q ∈ tlAll false a b, okP nb q) := by have := tl_okP (wt := false) HT1.out.symm; rw [hna2] at this; exact this
  have hn17 : 1 ≤ nb ∧ nb ≤ 7 := by omega
  clear h1 h2 h3 h4 hl7 hna2
  go_enter Try.func25, Try.ntmps25
  go_wp2_with (go_at_call 56; (with_reducible refine (H1.out _ ?_).mono ?_); (exact Below.refl _ _); rintro e w' ⟨rfl, q1, rfl⟩)
  obtain ⟨wy, ewy⟩ : ∃ W : World, W = (w.drewN q1).alloc (.cells #[] 62) := ⟨_, rfl⟩
  have by_ : Below w.heap.size w wy := by rw [ewy]; exact (below_drewN (Below.refl _ _) _).alloc (Nat.le_refl _) _
  have oy : OP wy w.heap.size w.heap.size (.slice (some ⟨w.heap.size, 0, none⟩) 0 0) [] [] := by rw [ewy]; exact OP.lit (w.drewN q1) _ _ (Nat.le_refl _)
  have hsy : wy.heap.size = w.heap.size + 1 := by rw [ewy]; show ((w.drewN q1).alloc _).heap.size = _; simp
  obtain ⟨wz, ewz⟩ : ∃ W : World, W = wy.alloc (.cells #[.slice (some ⟨w.heap.size, 0, none⟩) 0 0] 33) := ⟨_, rfl⟩
  have bz : Below w.heap.size w wz := by rw [ewz]; exact by_.alloc by_.size _
  have oz : OP wz w.heap.size w.heap.size (.slice (some ⟨w.heap.size, 0, none⟩) 0 0) [] [] := by rw [ewz]; exact OP.below oy ((Below.refl _ _).alloc (Nat.le_refl _) _)
  have kz : BK wz (w.heap.size + 1) 33 [.slice (some ⟨w.heap.size, 0, none⟩) 0 0] := by rw [ewz, ← hsy]; exact BK.new wy _ _
  rw [← ewy, ← ewz]
  clear ewy by_ oy hsy ewz
  have hI : ProI w [] (w.heap.size + 1) wz [] (fun k => k = w.heap.size + 1 ∨ k = w.heap.size) := ⟨⟨_, [], fun k => by simp [Value.ownBlock]; omega, kz, oz⟩, fun _ h => by simp at h, bz⟩
  have hlen : (tlAll false a b).length ≤ 268435456 := by rw [tlAll_eq HS1.out]; exact spAll_len7 HS1.out
  refine (tilings_any (n := nb) false w a b Aa Ab ca cb (proC (n := nb) (Nat.le_succ _)) hn17.2 hn17.1 HA.out HB.out hI bz ⟨0, by simp [Srt], by simp, by simp, by omega, by omega, by simp⟩ HOK.out).mono ?_
  rintro e w3 ⟨rfl, O', i3, -, -⟩
  rw [seeAll_all (fun _ _ => rfl), tlAll_eq HS1.out, ← HE.out] at i3
  obtain ⟨v, cells, -, k3, o3⟩ := i3.ex
  obtain ⟨A3, n3, c3, rfl, -, -, -⟩ := o3.form
  have g3 := k3.cell (j := 0) rfl
  have HF : Hid (MakesPB w (ppB a b) (alikeB a b) (.returned (.tuple #[.slice A3 n3 c3, .bool true])) w3) := by rw [← HT1.out]; exact MakesPB.of o3 i3.bel
  clear i3 hlen hI bz kz oz k3 o3
  go_wp2
  go_ret2
  exact HF.out
end Go.Proofs.Ytnljlophgolejaa
