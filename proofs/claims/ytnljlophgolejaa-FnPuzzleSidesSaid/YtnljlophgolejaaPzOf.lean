/- PuzzlesOf and WeightedPuzzles of both sides. -/
import Derived.Test.YtnljlophgolejaaSortF
import Derived.Test.YtnljlophgolejaaCountI
import Derived.Test.YtnljlophgolejaaWProP
namespace Go.Proofs.Ytnljlophgolejaa
open Go.RowKit

/-- Puzzles of one size and a word whether there are not too many, made. -/
def MakesPzB (w : World) (m : Int) (ps : List PZ) (ok : Bool) : Ending → World → Prop := fun e w' =>
  ∃ A n c cells, e = .returned (.tuple #[.slice A n c, .bool ok]) ∧ OZ w' w.heap.size w.heap.size (.slice A n c) m ps cells ∧ ps.length = n ∧ (n ≤ c ∧ c ≤ 9223372036854775807) ∧ Below w.heap.size w w'
theorem MakesPzB.of {w w' : World} {v : Value} {m : Int} {ps : List PZ} {cells : List Value} {ok : Bool} (h : OZ w' w.heap.size w.heap.size v m ps cells) (hb : Below w.heap.size w w') : MakesPzB w m ps ok (.returned (.tuple #[v, .bool ok])) w' := by
  obtain ⟨A, n, c, rfl, h1, h2, h3⟩ := h.form
  exact ⟨A, n, c, cells, rfl, h, h1, ⟨h2, h3⟩, hb⟩
theorem OZ.nil_ (w : World) (base b : Nat) (m : Int) : OZ w base b (.slice none 0 0) m [] [] := OF.nil_ _ _ _ _ _
def few (k : Nat) : Bool := decide ((k : Int) ≤ 600)
theorem few_iff {k : Nat} : few k = true ↔ k ≤ 600 := by unfold few; rw [decide_eq_true_eq]; omega
/-- Are there puzzles, and not too many? -/
def pzOk (wt : Bool) (a b : List Int) : Bool := alikeB a b && ((!wt || decide (a.length ≤ 5)) && few (spAll wt a b).length)
def pzR (wt : Bool) (a b : List Int) : List PZ := if few (spAll wt a b).length = true then spAll wt a b else []
def pzB (wt : Bool) (a b : List Int) : List PZ := if pzOk wt a b = true then spAll wt a b else []
theorem few_no {k : Nat} (h : ¬ k ≤ 600) : few k = false := by
  rcases h2 : few k with _ | _
  · rfl
  · exact absurd (few_iff.1 h2) h
theorem pzG_few (s : List PZ) (p : PZ) : pzG s p = few (s.length + 1) := rfl
theorem see_pz (l : List PZ) : ∀ (s : List PZ), few s.length = true → (seeAll pzS pzG s l).2 = few (s.length + l.length) ∧ ((seeAll pzS pzG s l).2 = true → (seeAll pzS pzG s l).1 = s ++ l) := by
  induction l with
  | nil => intro s h; exact ⟨h.symm, fun _ => by rw [seeAll, List.append_nil]⟩
  | cons p l ih =>
    intro s h
    rw [seeAll]
    rcases hg : pzG s p with _ | _
    · rw [if_neg (by simp)]
      refine ⟨?_, fun e => by cases e⟩
      rw [pzG_few] at hg
      rcases h2 : few (s.length + (p :: l).length) with _ | _
      · rfl
      · rw [few_iff, List.length_cons] at h2
        have h3 : few (s.length + 1) = true := few_iff.2 (by omega)
        rw [hg] at h3
        cases h3
    · rw [if_pos rfl]
      rw [pzG_few] at hg
      have e : (pzS s p).length = s.length + 1 := by simp [pzS]
      obtain ⟨h1, h2⟩ := ih (pzS s p) (by rw [e]; exact hg)
      refine ⟨?_, fun e2 => ?_⟩
      · rw [h1, e, List.length_cons, Nat.add_assoc, Nat.add_comm 1]
      · rw [h2 e2]
        simp [pzS]
theorem spAll_some {wt : Bool} {a b : List Int} (h : alikeB a b = true) (h5 : wt = true → a.length ≤ 5) : (spAll wt a b).length ≤ 268435456 := by
  have h1 := (alike_str h).1
  cases wt
  · exact spAll_len7 h1
  · exact Nat.le_trans (spAll_len5w h1 (h5 rfl)) (by decide)

set_option maxRecDepth 100000 in
set_option maxHeartbeats 1000000 in
theorem iPzs_any {Aa Ab : Option Addr} {n : Nat} {a b : List Int} {w : World} (ca cb : Nat) (wt : Bool) (ha : RI w Aa n a) (hb : RI w Ab n b) (h : alikeB a b = true) (h5 : wt = true → a.length ≤ 5) :
    Calls Try.prog 60 #[.slice Aa n ca, .slice Ab n cb, .bool wt] w (MakesPzB w (n : Int) (pzR wt a b) (few (spAll wt a b).length)) := by
  have HA := Lib.hid ha
  have HB := Lib.hid hb
  obtain ⟨h1, h2, h3, h4⟩ := alike_str h
  have hl7 := (isStrB_iff.1 h1).1
  have hna2 : a.length = n := HA.out.1
  have HS1 := Lib.hid h1
  have HOK : Hid (∀ q ∈ tlAll wt a b, okP n q) := by have := tl_okP (wt := wt) h; rw [hna2] at this; exact this
  have hlen : (tlAll wt a b).length ≤ 268435456 := by rw [(tlAll_perm wt h1).length_eq]; exact spAll_some h h5
  have HLEN := Lib.hid hlen
  have hn17 : 1 ≤ n ∧ n ≤ 7 := by omega
  clear h1 h2 h3 h4 hl7 hna2 ha hb h h5 hlen
  go_enter Try.func60, Try.ntmps60
  go_wp2_with fail
  obtain ⟨wy, ewy⟩ : ∃ W : World, W = w.alloc (.cells #[] 53) := ⟨_, rfl⟩
  have by_ : Below w.heap.size w wy := by rw [ewy]; exact (Below.refl _ _).alloc (Nat.le_refl _) _
  have oy : OZ wy w.heap.size w.heap.size (.slice (some ⟨w.heap.size, 0, none⟩) 0 0) (n : Int) [] [] := by rw [ewy]; exact OZ.lit w _ _ _ (Nat.le_refl _)
  have hsy : wy.heap.size = w.heap.size + 1 := by rw [ewy]; simp
  obtain ⟨wz, ewz⟩ : ∃ W : World, W = wy.alloc (.cells #[.slice (some ⟨w.heap.size, 0, none⟩) 0 0] 27) := ⟨_, rfl⟩
  have bz : Below w.heap.size w wz := by rw [ewz]; exact by_.alloc by_.size _
  have oz : OZ wz w.heap.size w.heap.size (.slice (some ⟨w.heap.size, 0, none⟩) 0 0) (n : Int) [] [] := by rw [ewz]; exact OZ.below oy ((Below.refl _ _).alloc (Nat.le_refl _) _)
  have kz : BK wz (w.heap.size + 1) 27 [.slice (some ⟨w.heap.size, 0, none⟩) 0 0] := by rw [ewz, ← hsy]; exact BK.new wy _ _
  rw [← ewy, ← ewz]
  clear ewy by_ oy hsy ewz
  have hI : PzI w (w.heap.size + 1) (n : Int) wz [] (fun k => k = w.heap.size + 1 ∨ k = w.heap.size) := ⟨⟨_, [], fun k => by simp [Value.ownBlock]; omega, kz, oz⟩, bz⟩
  refine (tilings_any (n := n) wt w a b Aa Ab ca cb (pzC (n := n) (Nat.le_succ _)) hn17.2 hn17.1 HA.out HB.out hI bz (by have := HLEN.out; simp only [List.length_nil]; omega) HOK.out).mono ?_
  rintro e w3 ⟨rfl, O', i3, -, -⟩
  obtain ⟨s1, s2⟩ := see_pz (tlAll wt a b) [] rfl
  obtain ⟨r, hr⟩ : ∃ r, r = seeAll pzS pzG [] (tlAll wt a b) := ⟨_, rfl⟩
  rw [← hr] at i3 s1 s2 ⊢
  obtain ⟨v, cells, -, k3, o3⟩ := i3.ex
  obtain ⟨A3, n3, c3, rfl, hn3, -, -⟩ := o3.form
  have g3 := k3.cell (j := 0) rfl
  have hpm := tlAll_perm (b := b) wt HS1.out
  have hle : ([] : List PZ).length + (tlAll wt a b).length = (spAll wt a b).length := by rw [List.length_nil, Nat.zero_add, hpm.length_eq]
  rw [hle] at s1
  rcases hq : r.2 with _ | _
  · have hno : few (spAll wt a b).length = false := by rw [← s1, hq]
    have HF : Hid (MakesPzB w (n : Int) (pzR wt a b) (few (spAll wt a b).length) (.returned (.tuple #[.slice none 0 0, .bool false])) w3) := by
      show MakesPzB _ _ _ _ _ _
      rw [pzR, hno, if_neg (by simp)]
      exact MakesPzB.of (OZ.nil_ _ _ _ _) i3.bel
    clear s1 s2 i3 k3 o3 hn3 hno hle hpm hr hI bz kz oz
    go_wp2
    go_ret2
    exact HF.out
  · have hyes : few (spAll wt a b).length = true := by rw [← s1, hq]
    have hr1 : r.1 = tlAll wt a b := by rw [s2 hq]; rfl
    rw [hr1] at o3 hn3
    have hn36 : n3 ≤ 600 := by have := few_iff.1 hyes; rw [← hn3, hpm.length_eq]; exact this
    have HS := Lib.hid (sortZ_any (spAll_sorted wt a b) hpm o3 (by omega))
    have O3 := Lib.hid o3
    have K3 := Lib.hid k3
    have HB3 := Lib.hid i3.bel
    have HYES := Lib.hid hyes
    clear s1 s2 i3 k3 o3 hn3 hyes hle hpm hr hr1 hI bz kz oz
    go_wp2_with fail
    refine HS.out.mono ?_
    rintro e w4 ⟨rfl, cells4, o4, gr4⟩
    have k4 : BK w4 (w.heap.size + 1) 27 [.slice A3 n3 c3] := K3.out.same (gr4.block _ K3.out.lt fun e => O3.out.neB K3.out (by decide) e.symm)
    have g4 := k4.cell (j := 0) rfl
    have b4 : Below w.heap.size w w4 := HB3.out.grown gr4 HB3.out.size (fun k hk => (OF.lt O3.out k hk).1)
    have HF : Hid (MakesPzB w (n : Int) (pzR wt a b) (few (spAll wt a b).length) (.returned (.tuple #[.slice A3 n3 c3, .bool true])) w4) := by
      show MakesPzB _ _ _ _ _ _
      rw [pzR, HYES.out, if_pos rfl]
      exact MakesPzB.of o4 b4
    clear o4 gr4 k4 b4 g3
    go_wp2
    go_ret2
    exact HF.out

set_option maxRecDepth 100000 in
set_option maxHeartbeats 1000000 in
theorem iPzOf_any {Aa Ab : Option Addr} {na nb : Nat} {a b : List Int} {w : World} (ca cb : Nat) (ha : RI w Aa na a) (hb : RI w Ab nb b) (hna : na ≤ 1000000000) (hnb : nb ≤ 1000000000) :
    Calls Try.prog 17 #[.slice Aa na ca, .slice Ab nb cb] w (MakesPzB w (a.length : Int) (pzB false a b) (pzOk false a b)) := by
  have HA := Lib.hid ha
  have HB := Lib.hid hb
  obtain ⟨t1, ht1⟩ : ∃ t, t = alikeB a b := ⟨_, rfl⟩
  have H1 : Hid (∀ W, Below w.heap.size w W → Calls Try.prog 56 #[.slice Aa na ca, .slice Ab nb cb] W (Gives W (.bool t1))) := fun W bW => by rw [ht1]; exact iAlike_any _ _ (HA.out.below bW) (HB.out.below bW) hna hnb
  have HT1 := Lib.hid ht1
  clear ht1 ha hb
  rcases t1 with _ | _
  · have HO : Hid (pzOk false a b = false) := by show _ = _; rw [pzOk, ← HT1.out]; rfl
    have HE : Hid (pzB false a b = []) := by show _ = _; rw [pzB, if_neg (by rw [HO.out]; simp)]
    go_enter Try.func17, Try.ntmps17
    go_wp2_with (go_at_call 56; (with_reducible refine (H1.out _ ?_).mono ?_); (exact Below.refl _ _); rintro e w' ⟨rfl, q1, rfl⟩)
    go_ret2
    rw [HE.out, HO.out]
    exact MakesPzB.of (OZ.nil_ _ _ _ _) (Quiet.below ⟨_, rfl⟩)
  obtain ⟨-, -, h3, -⟩ := alike_str HT1.out.symm
  have hna2 : a.length = na := HA.out.1
  have hnn : nb = na := by rw [← HB.out.1, ← h3, hna2]
  subst hnn
  clear h3
  have HO : Hid (pzOk false a b = few (spAll false a b).length) := by show _ = _; rw [pzOk, ← HT1.out]; simp
  have HE : Hid (pzB false a b = pzR false a b) := by show _ = _; rw [pzB, HO.out, pzR]
  have HP : Hid (∀ W, Quiet w W → Calls Try.prog 60 #[.slice Aa nb ca, .slice Ab nb cb, .bool false] W (fun e w' => MakesPzB w (a.length : Int) (pzB false a b) (pzOk false a b) e w' ∧ ∃ A N c ok, e = .returned (.tuple #[.slice A N c, .bool ok]))) := fun W q => by
    have bW : Below w.heap.size w W := Quiet.below q
    have hsW : W.heap.size = w.heap.size := by obtain ⟨k, rfl⟩ := q; rfl
    refine (iPzs_any ca cb false (HA.out.below bW) (HB.out.below bW) HT1.out.symm (by simp)).mono ?_
    rintro e w' ⟨A, N, c, cells, rfl, h1, h2, h3, h4⟩
    rw [hsW] at h1 h4
    refine ⟨?_, A, N, c, _, rfl⟩
    rw [HE.out, HO.out, hna2]
    exact ⟨A, N, c, cells, rfl, h1, h2, h3, bW.trans h4⟩
  clear hna2
  go_enter Try.func17, Try.ntmps17
  go_wp2_with (first
    | (go_at_call 56; (with_reducible refine (H1.out _ ?_).mono ?_); (exact Below.refl _ _); rintro e w' ⟨rfl, q1, rfl⟩)
    | (go_at_call 60; (with_reducible refine (HP.out _ ?_).mono ?_); (exact ⟨_, rfl⟩); rintro e w2 ⟨hm, A2, N2, c2, ok2, rfl⟩; have HM := Lib.hid hm; clear hm))
  go_ret2
  exact HM.out

set_option maxRecDepth 100000 in
set_option maxHeartbeats 1000000 in
theorem iWPz_any {Aa Ab : Option Addr} {na nb : Nat} {a b : List Int} {w : World} (ca cb : Nat) (ha : RI w Aa na a) (hb : RI w Ab nb b) (hna : na ≤ 1000000000) (hnb : nb ≤ 1000000000) :
    Calls Try.prog 23 #[.slice Aa na ca, .slice Ab nb cb] w (MakesPzB w (a.length : Int) (pzB true a b) (pzOk true a b)) := by
  have HA := Lib.hid ha
  have HB := Lib.hid hb
  obtain ⟨t1, ht1⟩ : ∃ t, t = alikeB a b := ⟨_, rfl⟩
  have H1 : Hid (∀ W, Below w.heap.size w W → Calls Try.prog 56 #[.slice Aa na ca, .slice Ab nb cb] W (Gives W (.bool t1))) := fun W bW => by rw [ht1]; exact iAlike_any _ _ (HA.out.below bW) (HB.out.below bW) hna hnb
  have HT1 := Lib.hid ht1
  clear ht1 ha hb
  rcases t1 with _ | _
  · have HO : Hid (pzOk true a b = false) := by show _ = _; rw [pzOk, ← HT1.out]; rfl
    have HE : Hid (pzB true a b = []) := by show _ = _; rw [pzB, if_neg (by rw [HO.out]; simp)]
    go_enter Try.func23, Try.ntmps23
    go_wp2_with (go_at_call 56; (with_reducible refine (H1.out _ ?_).mono ?_); (exact Below.refl _ _); rintro e w' ⟨rfl, q1, rfl⟩)
    go_ret2
    rw [HE.out, HO.out]
    exact MakesPzB.of (OZ.nil_ _ _ _ _) (Quiet.below ⟨_, rfl⟩)
  obtain ⟨-, -, h3, -⟩ := alike_str HT1.out.symm
  have hna2 : a.length = na := HA.out.1
  have hnn : nb = na := by rw [← HB.out.1, ← h3, hna2]
  subst hnn
  clear h3
  by_cases h5 : nb ≤ 5
  case neg =>
    have HO : Hid (pzOk true a b = false) := by show _ = _; rw [pzOk, hna2, decide_eq_false h5]; simp
    have HE : Hid (pzB true a b = []) := by show _ = _; rw [pzB, if_neg (by rw [HO.out]; simp)]
    have hgt : (5 : Int) < (nb : Int) := by omega
    have hgt2 : ¬ ((nb : Int) ≤ 5) := by omega
    clear hna2
    go_enter Try.func23, Try.ntmps23
    go_wp2_with (go_at_call 56; (with_reducible refine (H1.out _ ?_).mono ?_); (exact Below.refl _ _); rintro e w' ⟨rfl, q1, rfl⟩)
    go_ret2
    rw [HE.out, HO.out]
    exact MakesPzB.of (OZ.nil_ _ _ _ _) (Quiet.below ⟨_, rfl⟩)
  have h5i : (nb : Int) ≤ 5 := by omega
  have h5j : ¬ ((5 : Int) < (nb : Int)) := by omega
  have HO : Hid (pzOk true a b = few (spAll true a b).length) := by show _ = _; rw [pzOk, ← HT1.out]; simp [hna2, h5]
  have HE : Hid (pzB true a b = pzR true a b) := by show _ = _; rw [pzB, HO.out, pzR]
  have HP : Hid (∀ W, Quiet w W → Calls Try.prog 60 #[.slice Aa nb ca, .slice Ab nb cb, .bool true] W (fun e w' => MakesPzB w (a.length : Int) (pzB true a b) (pzOk true a b) e w' ∧ ∃ A N c ok, e = .returned (.tuple #[.slice A N c, .bool ok]))) := fun W q => by
    have bW : Below w.heap.size w W := Quiet.below q
    have hsW : W.heap.size = w.heap.size := by obtain ⟨k, rfl⟩ := q; rfl
    refine (iPzs_any ca cb true (HA.out.below bW) (HB.out.below bW) HT1.out.symm (by intro _; rw [hna2]; exact h5)).mono ?_
    rintro e w' ⟨A, N, c, cells, rfl, h1, h2, h3, h4⟩
    rw [hsW] at h1 h4
    refine ⟨?_, A, N, c, _, rfl⟩
    rw [HE.out, HO.out, hna2]
    exact ⟨A, N, c, cells, rfl, h1, h2, h3, bW.trans h4⟩
  clear hna2
  go_enter Try.func23, Try.ntmps23
  go_wp2_with (first
    | (go_at_call 56; (with_reducible refine (H1.out _ ?_).mono ?_); (exact Below.refl _ _); rintro e w' ⟨rfl, q1, rfl⟩)
    | (go_at_call 60; (with_reducible refine (HP.out _ ?_).mono ?_); (exact ⟨_, rfl⟩); rintro e w2 ⟨hm, A2, N2, c2, ok2, rfl⟩; have HM := Lib.hid hm; clear hm))
  go_ret2
  exact HM.out

set_option maxRecDepth 100000 in
set_option maxHeartbeats 1000000 in
theorem sPzOf_any {Aa Ab : Option Addr} {na nb : Nat} {a b : List Int} {w : World} (ca cb : Nat) (ha : RI w Aa na a) (hb : RI w Ab nb b) (hna : na ≤ 1000000000) (hnb : nb ≤ 1000000000) :
    Calls Try.prog 16 #[.slice Aa na ca, .slice Ab nb cb] w (MakesPzB w (a.length : Int) (pzB false a b) (pzOk false a b)) := by
  have HA := Lib.hid ha
  have HB := Lib.hid hb
  obtain ⟨t1, ht1⟩ : ∃ t, t = alikeB a b := ⟨_, rfl⟩
  have H1 : Hid (∀ W, Below w.heap.size w W → Calls Try.prog 52 #[.slice Aa na ca, .slice Ab nb cb] W (Gives W (.bool t1))) := fun W bW => by rw [ht1]; exact sTwo_any _ _ (HA.out.below bW) (HB.out.below bW) hna hnb
  have HT1 := Lib.hid ht1
  clear ht1 ha hb
  rcases t1 with _ | _
  · have HO : Hid (pzOk false a b = false) := by show _ = _; rw [pzOk, ← HT1.out]; rfl
    have HE : Hid (pzB false a b = []) := by show _ = _; rw [pzB, if_neg (by rw [HO.out]; simp)]
    go_enter Try.func16, Try.ntmps16
    go_wp2_with (go_at_call 52; (with_reducible refine (H1.out _ ?_).mono ?_); (exact Below.refl _ _); rintro e w' ⟨rfl, q1, rfl⟩)
    go_ret2
    rw [HE.out, HO.out]
    exact MakesPzB.of (OZ.nil_ _ _ _ _) (Quiet.below ⟨_, rfl⟩)
  obtain ⟨h1, -, h3, -⟩ := alike_str HT1.out.symm
  have hna2 : a.length = na := HA.out.1
  have hnn : nb = na := by rw [← HB.out.1, ← h3, hna2]
  subst hnn
  clear h3
  have HO : Hid (pzOk false a b = few (spAll false a b).length) := by show _ = _; rw [pzOk, ← HT1.out]; simp
  have hlen := spAll_some (wt := false) HT1.out.symm (by simp)
  have HNA := Lib.hid hna2
  have HP : Hid (∀ W, Quiet w W → Calls Try.prog 53 #[.slice Aa nb ca, .slice Ab nb cb, .bool false] W (fun e w' => ∃ A N c cells, e = .returned (.slice A N c) ∧ OZ w' w.heap.size w.heap.size (.slice A N c) (nb : Int) (spAll false a b) cells ∧ (spAll false a b).length = N ∧ Below w.heap.size w w')) := fun W q => by
    have bW : Below w.heap.size w W := Quiet.below q
    have hsW : W.heap.size = w.heap.size := by obtain ⟨k, rfl⟩ := q; rfl
    refine (sPuzzles_any ca cb false (HA.out.below bW) (HB.out.below bW) h1 (by omega)).mono ?_
    rintro e w' ⟨A, N, c, cells, rfl, h1, h2, h3⟩
    rw [hsW] at h1 h3
    exact ⟨A, N, c, cells, rfl, h1, h2, bW.trans h3⟩
  obtain ⟨PS, hPS⟩ : ∃ PS, PS = spAll false a b := ⟨_, rfl⟩
  rw [← hPS] at HP HO hlen
  have HPS := Lib.hid hPS
  clear hna2 h1 hPS
  go_enter Try.func16, Try.ntmps16
  go_wp2_with (first
    | (go_at_call 52; (with_reducible refine (H1.out _ ?_).mono ?_); (exact Below.refl _ _); rintro e w' ⟨rfl, q1, rfl⟩)
    | (go_at_call 53; (with_reducible refine (HP.out _ ?_).mono ?_); (exact ⟨_, rfl⟩); rintro e w2 ⟨A2, N2, c2, cells2, rfl, o2, l2, b2⟩; have O2 := Lib.hid o2; have B2 := Lib.hid b2; have L2 := Lib.hid l2; have l2x : N2 ≤ 268435456 := (by omega); clear o2 b2 l2))
  · -- too many
    rename_i hgt
    have hn : ¬ PS.length ≤ 600 := by have := L2.out; omega
    have HOF : Hid (pzOk false a b = false) := by show _ = _; rw [HO.out]; exact few_no hn
    have HE : Hid (pzB false a b = []) := by show _ = _; rw [pzB, if_neg (by rw [HOF.out]; simp)]
    go_ret2
    rw [HE.out, HOF.out]
    exact MakesPzB.of (OZ.nil_ _ _ _ _) B2.out
  · rename_i hgt
    have hn : PS.length ≤ 600 := by have := L2.out; omega
    have HOT : Hid (pzOk false a b = true) := by show _ = _; rw [HO.out]; exact few_iff.2 hn
    have HE : Hid (pzB false a b = PS) := by show _ = _; rw [pzB, if_pos HOT.out, HPS.out]
    go_ret2
    rw [HE.out, HOT.out, HNA.out]
    exact MakesPzB.of O2.out B2.out

set_option maxRecDepth 100000 in
set_option maxHeartbeats 1000000 in
theorem sWPz_any {Aa Ab : Option Addr} {na nb : Nat} {a b : List Int} {w : World} (ca cb : Nat) (ha : RI w Aa na a) (hb : RI w Ab nb b) (hna : na ≤ 1000000000) (hnb : nb ≤ 1000000000) :
    Calls Try.prog 22 #[.slice Aa na ca, .slice Ab nb cb] w (MakesPzB w (a.length : Int) (pzB true a b) (pzOk true a b)) := by
  have HA := Lib.hid ha
  have HB := Lib.hid hb
  obtain ⟨t1, ht1⟩ : ∃ t, t = alikeB a b := ⟨_, rfl⟩
  have H1 : Hid (∀ W, Below w.heap.size w W → Calls Try.prog 52 #[.slice Aa na ca, .slice Ab nb cb] W (Gives W (.bool t1))) := fun W bW => by rw [ht1]; exact sTwo_any _ _ (HA.out.below bW) (HB.out.below bW) hna hnb
  have HT1 := Lib.hid ht1
  clear ht1 ha hb
  rcases t1 with _ | _
  · have HO : Hid (pzOk true a b = false) := by show _ = _; rw [pzOk, ← HT1.out]; rfl
    have HE : Hid (pzB true a b = []) := by show _ = _; rw [pzB, if_neg (by rw [HO.out]; simp)]
    go_enter Try.func22, Try.ntmps22
    go_wp2_with (go_at_call 52; (with_reducible refine (H1.out _ ?_).mono ?_); (exact Below.refl _ _); rintro e w' ⟨rfl, q1, rfl⟩)
    go_ret2
    rw [HE.out, HO.out]
    exact MakesPzB.of (OZ.nil_ _ _ _ _) (Quiet.below ⟨_, rfl⟩)
  obtain ⟨h1, -, h3, -⟩ := alike_str HT1.out.symm
  have hna2 : a.length = na := HA.out.1
  have hnn : nb = na := by rw [← HB.out.1, ← h3, hna2]
  subst hnn
  clear h3
  by_cases h5 : nb ≤ 5
  case neg =>
    have HO : Hid (pzOk true a b = false) := by show _ = _; rw [pzOk, hna2, decide_eq_false h5]; simp
    have HE : Hid (pzB true a b = []) := by show _ = _; rw [pzB, if_neg (by rw [HO.out]; simp)]
    have hgt : (5 : Int) < (nb : Int) := by omega
    have hgt2 : ¬ ((nb : Int) ≤ 5) := by omega
    clear hna2 h1
    go_enter Try.func22, Try.ntmps22
    go_wp2_with (go_at_call 52; (with_reducible refine (H1.out _ ?_).mono ?_); (exact Below.refl _ _); rintro e w' ⟨rfl, q1, rfl⟩)
    go_ret2
    rw [HE.out, HO.out]
    exact MakesPzB.of (OZ.nil_ _ _ _ _) (Quiet.below ⟨_, rfl⟩)
  have h5i : (nb : Int) ≤ 5 := by omega
  have h5j : ¬ ((5 : Int) < (nb : Int)) := by omega
  have HO : Hid (pzOk true a b = few (spAll true a b).length) := by show _ = _; rw [pzOk, ← HT1.out]; simp [hna2, h5]
  have hlen := spAll_some (wt := true) HT1.out.symm (by intro _; rw [hna2]; exact h5)
  have HNA := Lib.hid hna2
  have HP : Hid (∀ W, Quiet w W → Calls Try.prog 53 #[.slice Aa nb ca, .slice Ab nb cb, .bool true] W (fun e w' => ∃ A N c cells, e = .returned (.slice A N c) ∧ OZ w' w.heap.size w.heap.size (.slice A N c) (nb : Int) (spAll true a b) cells ∧ (spAll true a b).length = N ∧ Below w.heap.size w w')) := fun W q => by
    have bW : Below w.heap.size w W := Quiet.below q
    have hsW : W.heap.size = w.heap.size := by obtain ⟨k, rfl⟩ := q; rfl
    refine (sPuzzles_any ca cb true (HA.out.below bW) (HB.out.below bW) h1 (by omega)).mono ?_
    rintro e w' ⟨A, N, c, cells, rfl, h1, h2, h3⟩
    rw [hsW] at h1 h3
    exact ⟨A, N, c, cells, rfl, h1, h2, bW.trans h3⟩
  obtain ⟨PS, hPS⟩ : ∃ PS, PS = spAll true a b := ⟨_, rfl⟩
  rw [← hPS] at HP HO hlen
  have HPS := Lib.hid hPS
  clear hna2 h1 hPS
  go_enter Try.func22, Try.ntmps22
  go_wp2_with (first
    | (go_at_call 52; (with_reducible refine (H1.out _ ?_).mono ?_); (exact Below.refl _ _); rintro e w' ⟨rfl, q1, rfl⟩)
    | (go_at_call 53; (with_reducible refine (HP.out _ ?_).mono ?_); (exact ⟨_, rfl⟩); rintro e w2 ⟨A2, N2, c2, cells2, rfl, o2, l2, b2⟩; have O2 := Lib.hid o2; have B2 := Lib.hid b2; have L2 := Lib.hid l2; have l2x : N2 ≤ 268435456 := (by omega); clear o2 b2 l2))
  · -- too many
    rename_i hgt
    have hn : ¬ PS.length ≤ 600 := by have := L2.out; omega
    have HOF : Hid (pzOk true a b = false) := by show _ = _; rw [HO.out]; exact few_no hn
    have HE : Hid (pzB true a b = []) := by show _ = _; rw [pzB, if_neg (by rw [HOF.out]; simp)]
    go_ret2
    rw [HE.out, HOF.out]
    exact MakesPzB.of (OZ.nil_ _ _ _ _) B2.out
  · rename_i hgt
    have hn : PS.length ≤ 600 := by have := L2.out; omega
    have HOT : Hid (pzOk true a b = true) := by show _ = _; rw [HO.out]; exact few_iff.2 hn
    have HE : Hid (pzB true a b = PS) := by show _ = _; rw [pzB, if_pos HOT.out, HPS.out]
    go_ret2
    rw [HE.out, HOT.out, HNA.out]
    exact MakesPzB.of O2.out B2.out

theorem pzB_small {wt : Bool} {a b : List Int} : (pzB wt a b).length ≤ 10000 ∧ ∀ p ∈ pzB wt a b, p.1.length ≤ 100000 ∧ p.2.1.length ≤ 100000 ∧ p.2.2.length ≤ 100000 := by
  unfold pzB
  split
  · rename_i h
    unfold pzOk at h
    rw [Bool.and_eq_true, Bool.and_eq_true, few_iff] at h
    refine ⟨by omega, fun p hp => ?_⟩
    have := puz_len (tl_okP (wt := wt) h.1 p ((tlAll_perm wt (alike_str h.1).1).mem_iff.2 hp))
    omega
  · simp
end Go.Proofs.Ytnljlophgolejaa
