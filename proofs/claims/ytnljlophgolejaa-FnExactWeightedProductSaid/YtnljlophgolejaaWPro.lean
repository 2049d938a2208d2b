/- WeightedProduct of the program. -/
import Derived.Test.YtnljlophgolejaaSeeW
import Derived.Test.YtnljlophgolejaaPDel
import Derived.Test.YtnljlophgolejaaPuzY
namespace Go.Proofs.Ytnljlophgolejaa
open Go.RowKit

/-- Is there a weighted product? -/
def wpOk (a b Y : List Int) : Bool := alikeB a b && shB (a.length : Int) Y
/-- The weighted product of two strings. -/
def wpB (a b Y : List Int) : List (List Int × Int) := if wpOk a b Y = true then nz ((spAll true a b).foldl (proS a.length (wtF a.length Y)) []) else []

theorem iNonzero_any {w : World} {base b n : Nat} {A0 : Option Addr} {ps : List (List Int × Int)} {cells : List Value} (c0 : Nat) (h : OP w base b (.slice A0 n c0) ps cells) (hn : n ≤ 1000000000000) :
    Calls Try.prog 73 #[.slice A0 n c0] w (DelP w base b (.slice A0 n c0) (nz ps)) := by
  have HI := Lib.hid (deleteP_any c0 h hn)
  clear h
  go_enter Try.func73, Try.ntmps73
  go_wp2_with fail
  refine HI.out.mono ?_
  rintro e w1 hq
  obtain ⟨v', cells', rfl, h1, h2⟩ := hq
  obtain ⟨A1, n1, c1, rfl, h3⟩ := h1.form
  have HF : Hid (DelP w base b (.slice A0 n c0) (nz ps) (.returned (.slice A1 n1 c1)) w1) := ⟨_, cells', rfl, h1, h2⟩
  clear h1 h2 h3
  go_wp2
  go_ret
  exact HF.out

theorem proS_len {n : Nat} {f : PZ → Int} : ∀ (l : List PZ) (s : List (List Int × Int)), (l.foldl (proS n f) s).length ≤ s.length + l.length := by
  intro l
  induction l with
  | nil => intro s; simp
  | cons p l ih =>
    intro s
    rw [List.foldl_cons, List.length_cons]
    have h5 := ih (proS n f s p)
    have h6 : (proS n f s p).length ≤ s.length + 1 := insZ_len (s := shapeStr (sideB n p.2.2 n)) (n := f p) s
    omega

set_option maxRecDepth 100000 in
set_option maxHeartbeats 1000000 in
theorem iWPro_any {Aa Ab Ay : Option Addr} {na nb ny : Nat} {a b Y : List Int} {w : World} (ca cb cy : Nat) (ha : RI w Aa na a) (hb : RI w Ab nb b) (hy : RI w Ay ny Y) (hna : na ≤ 1000000000) (hnb : nb ≤ 1000000000) (hny : ny ≤ 1000000000) :
    Calls Try.prog 30 #[.slice Aa na ca, .slice Ab nb cb, .slice Ay ny cy] w (MakesPB w (wpB a b Y) (wpOk a b Y)) := by
  have HA := Lib.hid ha
  have HB := Lib.hid hb
  have HY := Lib.hid hy
  obtain ⟨t1, ht1⟩ : ∃ t, t = alikeB a b := ⟨_, rfl⟩
  obtain ⟨w1, ew1⟩ : ∃ W : World, W = w.alloc (.cells #[.slice Ay ny cy] 22) := ⟨_, rfl⟩
  have b1 : Below w.heap.size w w1 := by rw [ew1]; exact (Below.refl _ _).alloc (Nat.le_refl _) _
  have k1 : BK w1 w.heap.size 22 [.slice Ay ny cy] := by rw [ew1]; exact BK.new w _ _
  have hs1 : w1.heap.size = w.heap.size + 1 := by rw [ew1]; simp
  have EW : Hid (w.alloc (.cells #[.slice Ay ny cy] 22) = w1) := ew1.symm
  have H1 : Hid (∀ W, Below w.heap.size w W → Calls Try.prog 56 #[.slice Aa na ca, .slice Ab nb cb] W (Gives W (.bool t1))) := fun W bW => by rw [ht1]; exact iAlike_any _ _ (HA.out.below bW) (HB.out.below bW) hna hnb
  have HT1 := Lib.hid ht1
  have K1 := Lib.hid k1
  have HB1 := Lib.hid b1
  clear ht1 ha hb hy ew1 b1 k1
  rcases t1 with _ | _
  · have HOK : Hid (wpOk a b Y = false) := by show _ = _; rw [wpOk, ← HT1.out]; rfl
    have HE : Hid (wpB a b Y = []) := by show _ = _; rw [wpB, if_neg (by rw [HOK.out]; simp)]
    go_enter Try.func30, Try.ntmps30
    go_wp2_with (go_at_call 56; (with_reducible refine (H1.out _ ?_).mono ?_); (rw [EW.out]; exact HB1.out); rintro e w' ⟨rfl, q1, rfl⟩)
    go_ret2
    rw [HE.out, HOK.out]
    rw [EW.out]
    exact MakesPB.of (OF.nil_ _ _ _ _ _) (below_drewN HB1.out _)
  obtain ⟨h1, h2, h3, h4⟩ := alike_str HT1.out.symm
  have hl7 := (isStrB_iff.1 h1).1
  have hna2 : a.length = na := HA.out.1
  have hnn : nb = na := by rw [← HB.out.1, ← h3, hna2]
  subst hnn
  by_cases h5 : nb ≤ 5
  case neg =>
    have HOK : Hid (wpOk a b Y = false) := by show _ = _; rw [wpOk, shB_big (by omega)]; simp
    have HE : Hid (wpB a b Y = []) := by show _ = _; rw [wpB, if_neg (by rw [HOK.out]; simp)]
    clear h1 h2 h3 h4 hl7 hna2
    have hgt : (5 : Int) < (nb : Int) := by omega
    have hgt2 : ¬ ((nb : Int) ≤ 5) := by omega
    go_enter Try.func30, Try.ntmps30
    go_wp2_with (go_at_call 56; (with_reducible refine (H1.out _ ?_).mono ?_); (rw [EW.out]; exact HB1.out); rintro e w' ⟨rfl, q1, rfl⟩)
    go_ret2
    rw [HE.out, HOK.out]
    rw [EW.out]
    exact MakesPB.of (OF.nil_ _ _ _ _ _) (below_drewN HB1.out _)
  have h5i : (nb : Int) ≤ 5 := by omega
  have h5j : ¬ ((5 : Int) < (nb : Int)) := by omega
  obtain ⟨t2, ht2⟩ : ∃ t, t = shB (nb : Int) Y := ⟨_, rfl⟩
  have H2 : Hid (∀ W, Below w.heap.size w W → Calls Try.prog 70 #[.slice Ay ny cy, .int .i64 (nb : Int)] W (Gives W (.bool t2))) := fun W bW => by rw [ht2]; exact iShifts_any _ _ (HY.out.below bW) hny (by omega)
  have HT2 := Lib.hid ht2
  have HOK : Hid (wpOk a b Y = t2) := by show _ = _; rw [wpOk, ← HT1.out, hna2, ← ht2]; rfl
  clear ht2
  rcases t2 with _ | _
  · have HE : Hid (wpB a b Y = []) := by show _ = _; rw [wpB, if_neg (by rw [HOK.out]; simp)]
    clear h1 h2 h3 h4 hl7 hna2
    go_enter Try.func30, Try.ntmps30
    go_wp2_with (first
      | (go_at_call 56; (with_reducible refine (H1.out _ ?_).mono ?_); (rw [EW.out]; exact HB1.out); rintro e w' ⟨rfl, q1, rfl⟩)
      | (go_at_call 70; (with_reducible refine (H2.out _ ?_).mono ?_); (rw [EW.out]; exact below_drewN HB1.out _); rintro e w' ⟨rfl, q2, rfl⟩))
    go_ret2
    rw [HE.out, HOK.out]
    rw [EW.out]
    exact MakesPB.of (OF.nil_ _ _ _ _ _) (below_drewN HB1.out _)
  have hsh : shB (nb : Int) Y = true := HT2.out.symm
  have HSH := Lib.hid hsh
  have HE : Hid (wpB a b Y = nz ((spAll true a b).foldl (proS nb (wtF nb Y)) [])) := by show _ = _; rw [wpB, if_pos HOK.out, hna2]
  have HS1 := Lib.hid h1
  have HOKP : Hid (∀ q ∈ tlAll true a b, okP nb q) := by have := tl_okP (wt := true) HT1.out.symm; rw [hna2] at this; exact this
  have hn17 : 1 ≤ nb ∧ nb ≤ 7 := by omega
  have hlen : (tlAll true a b).length ≤ 59049 := by rw [(tlAll_perm true HS1.out).length_eq]; exact spAll_len5w HS1.out (by omega)
  have HLEN := Lib.hid hlen
  clear h1 h2 h3 h4 hl7 hna2 hsh hlen
  go_enter Try.func30, Try.ntmps30
  go_wp2_with (first
    | (go_at_call 56; (with_reducible refine (H1.out _ ?_).mono ?_); (rw [EW.out]; exact HB1.out); rintro e w' ⟨rfl, q1, rfl⟩)
    | (go_at_call 70; (with_reducible refine (H2.out _ ?_).mono ?_); (rw [EW.out]; exact below_drewN HB1.out _); rintro e w' ⟨rfl, q2, rfl⟩))
  rw [EW.out]
  obtain ⟨w2, ew2⟩ : ∃ W : World, W = w1.drewN (q1 + q2) := ⟨_, rfl⟩
  have b2 : Below w.heap.size w w2 := by rw [ew2]; exact below_drewN HB1.out _
  have k2 : BK w2 w.heap.size 22 [.slice Ay ny cy] := by rw [ew2]; exact K1.out
  have hs2 : w2.heap.size = w.heap.size + 1 := by rw [ew2]; exact hs1
  obtain ⟨wy, ewy⟩ : ∃ W : World, W = w2.alloc (.cells #[] 62) := ⟨_, rfl⟩
  have by_ : Below w.heap.size w wy := by rw [ewy]; exact b2.alloc b2.size _
  have oy : OP wy w.heap.size w.heap.size (.slice (some ⟨w.heap.size + 1, 0, none⟩) 0 0) [] [] := by rw [ewy, ← hs2]; exact OP.lit w2 _ _ b2.size
  have hsy : wy.heap.size = w.heap.size + 1 + 1 := by rw [ewy]; simp; omega
  obtain ⟨wz, ewz⟩ : ∃ W : World, W = wy.alloc (.cells #[.slice (some ⟨w.heap.size + 1, 0, none⟩) 0 0] 33) := ⟨_, rfl⟩
  have bz : Below w.heap.size w wz := by rw [ewz]; exact by_.alloc by_.size _
  have oz : OP wz w.heap.size w.heap.size (.slice (some ⟨w.heap.size + 1, 0, none⟩) 0 0) [] [] := by rw [ewz]; exact OP.below oy ((Below.refl _ _).alloc (Nat.le_refl _) _)
  have kz : BK wz (w.heap.size + 1 + 1) 33 [.slice (some ⟨w.heap.size + 1, 0, none⟩) 0 0] := by rw [ewz, ← hsy]; exact BK.new wy _ _
  have kyz : BK wz w.heap.size 22 [.slice Ay ny cy] := by rw [ewz, ewy]; exact (k2.alloc _).alloc _
  rw [← ew2, ← ewy, ← ewz]
  clear ew2 b2 k2 ewy by_ oy ewz
  have hI : ProI w [(w.heap.size, 22, .slice Ay ny cy)] (w.heap.size + 1 + 1) wz [] (fun k => k = w.heap.size ∨ k = w.heap.size + 1 + 1 ∨ k = w.heap.size + 1) :=
    ⟨⟨_, [], fun k => by simp [Value.ownBlock]; omega, kz, oz⟩, fun x hx => by rw [List.mem_singleton] at hx; subst hx; exact kyz, bz⟩
  refine (tilings_any (n := nb) true w a b Aa Ab ca cb (proCW (n := nb) (g := w.heap.size + 1 + 1) (gy := w.heap.size) (cy := cy) (by omega) (Nat.le_refl _) (by omega) HSH.out HY.out) hn17.2 hn17.1 HA.out HB.out hI bz ⟨0, by simp [Srt], by simp, by simp, by have := HLEN.out; omega, by have := HLEN.out; omega, by simp⟩ HOKP.out).mono ?_
  rintro e w3 ⟨rfl, O', i3, -, -⟩
  rw [seeAll_all (fun _ _ => rfl)] at i3
  dsimp only at i3
  rw [proS_perm (tlAll_perm true HS1.out)] at i3
  obtain ⟨v, cells, -, k3, o3⟩ := i3.ex
  have hl3 : ((spAll true a b).foldl (proS nb (wtF nb Y)) []).length ≤ 59049 := by
    have h1 := spAll_len5w (wt := true) (b := b) HS1.out (by rw [HA.out.1]; exact h5)
    have h2 := proS_len (n := nb) (f := wtF nb Y) (spAll true a b) []
    simp only [List.length_nil] at h2
    omega
  obtain ⟨A3, n3, c3, rfl, hn3, -, -⟩ := o3.form
  have g3 := k3.cell (j := 0) rfl
  have HN := Lib.hid (iNonzero_any c3 o3 (by omega))
  have O3 := Lib.hid o3
  have HB3 := Lib.hid i3.bel
  clear i3 hI bz kz oz k3 o3 hn3 hl3 kyz
  go_wp2_with fail
  refine HN.out.mono ?_
  rintro e w4 ⟨v4, cells4, rfl, o4, gr4⟩
  have b4 : Below w.heap.size w w4 := HB3.out.grown gr4 HB3.out.size (fun k hk => (OF.lt O3.out k hk).1)
  obtain ⟨A4, n4, c4, rfl, -, -, -⟩ := o4.form
  have HF : Hid (MakesPB w (wpB a b Y) (wpOk a b Y) (.returned (.tuple #[.slice A4 n4 c4, .bool true])) w4) := by rw [HOK.out, HE.out]; exact MakesPB.of o4 b4
  clear o4 gr4 b4
  go_wp2
  go_ret2
  exact HF.out
end Go.Proofs.Ytnljlophgolejaa
