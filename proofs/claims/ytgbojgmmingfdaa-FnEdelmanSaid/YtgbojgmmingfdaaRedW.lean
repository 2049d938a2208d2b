/- CountReduced and ReducedWords of the program. -/
import Derived.Test.YtgbojgmmingfdaaFmtPm
import Derived.Test.YtgbojgmmingfdaaCnt
import Derived.Test.YtgbojgmmingfdaaStanB
import Derived.Test.YtgbojgmmingfdaaEgR
import Derived.Test.YtgbojgmmingfdaaEgW
namespace Go.Proofs.Ytgbojgmmingfdaa
open Go.RowKit Go.WideMaps Go.Maps

def countRB (l : List Int) : Int := if permB l then (wordsN l : Int) else -1
set_option maxRecDepth 100000 in
set_option maxHeartbeats 1000000 in
theorem iCountRed_any {A : Option Addr} {n : Nat} {l : List Int} {w : World} (c : Nat) (hx : RI w A n l) (hn : n ≤ 1000000000) :
    Calls Try.prog 28 #[.slice A n c] w (GivesB w (.int .i64 (countRB l))) := by
  have hmm := fun t w => run_makeMap (P := Try.prog) t w
  have HIS : Hid (Calls Try.prog 94 #[.slice A n c] w (GivesB w (.bool (permB l)))) := isPerm_any (w := w) c hx hn
  rcases hp : permB l with _ | _
  · have HE : Hid (countRB l = -1) := by show _ = _; rw [countRB, hp]; rfl
    rw [hp] at HIS
    go_enter Try.func28, Try.ntmps28
    go_wp2_with (first | (go_at_call 94; refine HIS.out.mono ?_; rintro e w1 ⟨rfl, b1⟩) | fail)
    go_ret
    exact ⟨by rw [HE.out]; rfl, b1⟩
  · have HE : Hid (countRB l = wordsN l) := by show _ = _; rw [countRB, hp]; rfl
    have HCT : Hid (∀ W, Below w.heap.size w W → Calls Try.prog 95 #[.slice A n c, .map (some W.heap.size)] (W.alloc (.map #[] 0)) (GivesB W (.int .i64 (wordsN l)))) := fun W bW => by
      have hb2 : Below W.heap.size W (W.alloc (.map #[] 0)) := (Below.refl _ _).alloc (Nat.le_refl _) _
      have hpn : putsN 21 ≤ 1000000000000000000 := by decide
      have h := counted_any Unit 21 (W.alloc (.map #[] 0)) A n c l W.heap.size 0 (.map []) (hx.below (bW.trans (hb2.mono bW.size))) hp (fin_21 (permB_size hp).2) (Nat.le_refl _) (World.ownsMap_made _ _ _ _) (fun v _ _ hh => by simp [Maps.has] at hh) (by omega)
      refine h.mono ?_
      rintro e w' ⟨rfl, m', D', -, -, -, g4⟩
      exact ⟨rfl, hb2.grown g4 hb2.size fun k hk => by injection hk; omega⟩
    rw [hp] at HIS
    clear hx hp
    go_enter Try.func28, Try.ntmps28
    go_wp2_with (first
      | (go_at_call 94; refine HIS.out.mono ?_; rintro e w1 ⟨rfl, b1⟩; have B1 := Lib.hid b1)
      | (go_at_call 95; refine (HCT.out _ B1.out).mono ?_; rintro e w2 ⟨rfl, b2⟩)
      | fail)
    go_ret
    exact ⟨by rw [HE.out]; rfl, bnext B1.out b2 B1.out.size⟩
/-- A slice of slices and a bool. -/
def MakesSb (w : World) (ls : List (List Int)) (ok : Bool) : Ending → World → Prop := fun e w' =>
  ∃ A n c cells, e = .returned (.tuple #[.slice A n c, .bool ok]) ∧ OS w' w.heap.size w.heap.size (.slice A n c) ls cells ∧ ls.length = n ∧ (n ≤ c ∧ c ≤ 9223372036854775807) ∧ Below w.heap.size w w'
def redOk (l : List Int) : Bool := permB l && decide (wordsN l ≤ 800)
def redB (l : List Int) : List (List Int) := if redOk l then redI 21 l else []
set_option maxRecDepth 100000 in
set_option maxHeartbeats 1000000 in
theorem iRed_any {A : Option Addr} {n : Nat} {l : List Int} {w : World} (c : Nat) (hx : RI w A n l) (hn : n ≤ 1000000000) :
    Calls Try.prog 75 #[.slice A n c] w (MakesSb w (redB l) (redOk l)) := by
  have HCR : Hid (Calls Try.prog 28 #[.slice A n c] w (GivesB w (.int .i64 (countRB l)))) := iCountRed_any c hx hn
  obtain ⟨z, hz⟩ : ∃ z, z = countRB l := ⟨_, rfl⟩
  rw [← hz] at HCR
  have HZ := Lib.hid hz
  have HX := Lib.hid hx
  clear hz hx
  by_cases h0 : z < 0
  · have HE : Hid (redOk l = false) := by
      show _ = _
      have h := HZ.out
      rw [countRB] at h
      split at h
      · omega
      · rename_i hp
        simp only [Bool.not_eq_true] at hp
        rw [redOk, hp]; rfl
    have h0' : decide (z < 0) = true := decide_eq_true h0
    clear h0
    go_enter Try.func75, Try.ntmps75
    go_wp2_with (first | (go_at_call 28; refine HCR.out.mono ?_; rintro e w1 ⟨rfl, b1⟩) | fail)
    go_ret2
    rw [redB, HE.out]
    exact ⟨_, _, _, [], rfl, OF.nil_ _ _ _ _ _, rfl, by omega, b1⟩
  · have HP : Hid (permB l = true ∧ z = wordsN l) := by
      have h := HZ.out
      rw [countRB] at h
      split at h
      · rename_i hp; exact ⟨hp, h⟩
      · omega
    have h0' : decide (z < 0) = false := decide_eq_false h0
    by_cases h8 : 800 < z
    · have HE : Hid (redOk l = false) := by
        show _ = _
        rw [redOk, HP.out.1, decide_eq_false (by have := HP.out.2; omega)]; rfl
      have h8' : decide (800 < z) = true := decide_eq_true h8
      clear h0 h8
      go_enter Try.func75, Try.ntmps75
      go_wp2_with (first | (go_at_call 28; refine HCR.out.mono ?_; rintro e w1 ⟨rfl, b1⟩) | fail)
      go_ret2
      rw [redB, HE.out]
      exact ⟨_, _, _, [], rfl, OF.nil_ _ _ _ _ _, rfl, by omega, b1⟩
    · have HE : Hid (redOk l = true) := by
        show _ = _
        rw [redOk, HP.out.1, decide_eq_true (by have := HP.out.2; omega)]; rfl
      have h8' : decide (800 < z) = false := decide_eq_false h8
      have HAR : Hid (∀ W, Below w.heap.size w W → Calls Try.prog 145 #[.slice A n c] W (MakesS W (redI 21 l))) := fun W bW =>
        allRed_any 21 W A n c l (HX.out.below bW) HP.out.1 (fin_21 (permB_size HP.out.1).2) (by have := HP.out.2; unfold wordsN at this; omega)
      clear h0 h8
      go_enter Try.func75, Try.ntmps75
      go_wp2_with (first
        | (go_at_call 28; refine HCR.out.mono ?_; rintro e w1 ⟨rfl, b1⟩; have B1 := Lib.hid b1)
        | (go_at_call 145; refine (HAR.out _ B1.out).mono ?_; rintro e w2 ⟨A2, n2, c2, cs, rfl, o2, l2, q2, b2⟩)
        | fail)
      go_ret2
      rw [redB, HE.out]
      exact ⟨_, _, _, cs, rfl, OF.mono o2 B1.out.size B1.out.size, l2, q2, bnext B1.out b2 B1.out.size⟩
end Go.Proofs.Ytgbojgmmingfdaa

/- Shapes of the tableaux of all reduced words, in plain words. -/
namespace Go.Proofs.Ytgbojgmmingfdaa
open Go.RowKit

/-- The tableaux of words, each once. -/
def distT (ws : List (List Int)) : List (List (List Int)) := ws.foldl (fun acc v => if egT v ∈ acc then acc else acc ++ [egT v]) []
def stanS (Ts : List (List (List Int))) : List (List Int × Int) := Ts.foldl (fun ps T => addP ps (shapeT T) 1) []
def stanR (l : List Int) : List (List Int × Int) := if redOk l then stanS (distT (redI 21 l)) else []
theorem distT_take {ws : List (List Int)} {k : Nat} (h : k < ws.length) : distT (ws.take (k + 1)) = if egT (nthL ws k) ∈ distT (ws.take k) then distT (ws.take k) else distT (ws.take k) ++ [egT (nthL ws k)] := by
  rw [show ws.take (k + 1) = ws.take k ++ [nthL ws k] by rw [nthL_lt h]; exact (List.take_append_getElem h).symm, distT, List.foldl_append]
  rfl
theorem distT_len (ws : List (List Int)) : ∀ k, k ≤ ws.length → (distT (ws.take k)).length ≤ k
  | 0, _ => by simp [distT]
  | k + 1, hk => by
    have ih := distT_len ws k (by omega)
    rw [distT_take (by omega)]
    split
    · omega
    · rw [List.length_append, List.length_singleton]; omega
theorem distT_of {ws : List (List Int)} : ∀ k, k ≤ ws.length → ∀ T ∈ distT (ws.take k), ∃ v ∈ ws, T = egT v
  | 0, _, T, hT => by simp [distT] at hT
  | k + 1, hk, T, hT => by
    rw [distT_take (by omega)] at hT
    split at hT
    · exact distT_of k (by omega) T hT
    · rcases List.mem_append.1 hT with hT | hT
      · exact distT_of k (by omega) T hT
      · exact ⟨nthL ws k, by rw [nthL_lt (by omega)]; exact List.getElem_mem _, List.mem_singleton.1 hT⟩
theorem RedOf.tab {l v : List Int} (h : RedOf l v) : TabOk 6 v.length (egT v) ∧ Low (egT v) := by
  have hw := h.word
  have hs := permB_size h.pm
  have hk := egT_ok (M := 6) (v := v) (fun x hx => by have := h.ok x hx; omega) v.length (Nat.le_refl _)
  rw [List.take_length] at hk
  refine ⟨hk, by have := hk.rows; omega, fun k hk2 => ?_⟩
  have := hk.cols (nthL (egT v) k) (by rw [nthL_lt hk2]; exact List.getElem_mem _)
  omega
theorem stanS_take {Ts : List (List (List Int))} {k : Nat} (h : k < Ts.length) : stanS (Ts.take (k + 1)) = addP (stanS (Ts.take k)) (shapeT (Ts.getD k [])) 1 := by
  rw [show Ts.take (k + 1) = Ts.take k ++ [Ts.getD k []] by rw [List.getD, List.getElem?_eq_getElem h]; exact (List.take_append_getElem h).symm, stanS, List.foldl_append]
  rfl
/-- What holds in the first loop. -/
structure StA (w wr : World) (wv av : Value) (ws : List (List Int)) (wc : List Value) (Ts : List (List (List Int))) (ac : List Value) : Prop where
  ws : OS wr w.heap.size w.heap.size wv ws wc
  al : O3 wr w.heap.size av Ts ac
  bel : Below w.heap.size w wr
section
variable {w w1 w2 : World} {wv av av' : Value} {ws : List (List Int)} {wc ac ac' : List Value} {Ts Ts' : List (List (List Int))}
theorem StA.below (h : StA w w1 wv av ws wc Ts ac) (b : Below w1.heap.size w1 w2) : StA w w2 wv av ws wc Ts ac := ⟨OF.below h.ws b, h.al.below b, h.bel.trans (b.mono h.bel.size)⟩
theorem StA.app (h : StA w w1 wv av ws wc Ts ac) (hg : w1.grownBy w2 av.ownBlock) (ho : O3 w2 w.heap.size av' Ts' ac') : StA w w2 wv av' ws wc Ts' ac' :=
  ⟨h.al.elsKept h.ws hg, ho, h.bel.grown hg h.bel.size fun k hk => (h.al.lt k hk).1⟩
end
theorem O3.keptE {w w' : World} {base : Nat} {v : Value} {Ts : List (List (List Int))} {cells : List Value} {row : Option Nat} (h : O3 w base v Ts cells) (hg : w.grownBy w' row) (hrow : ∀ g, row = some g → ∃ cs m, w.heap[g]? = some (.cells cs 47 m)) : O3 w' base v Ts cells := by
  refine ⟨World.ownsRow.kept h.row hg ?_, fun j T u h1 h2 => ?_⟩
  · rcases hq : v.ownBlock with _ | g
    · exact .inl rfl
    · refine .inr fun e => ?_
      obtain ⟨cs, m, h1⟩ := h.typed g hq
      obtain ⟨cs2, m2, h2⟩ := hrow g e.symm
      rw [h1] at h2
      injection h2 with h2
      injection h2 with _ h3
      exact absurd h3 (by decide)
  · obtain ⟨pc, h3⟩ := h.els j T u h1 h2
    refine ⟨pc, OF.kept h3 hg ?_ fun g e => ?_⟩
    · rcases hq : u.ownBlock with _ | g
      · exact .inl rfl
      · refine .inr fun e => ?_
        obtain ⟨cs, m, h4⟩ := OF.typed h3 g hq
        obtain ⟨cs2, m2, h5⟩ := hrow g e.symm
        rw [h4] at h5
        injection h5 with h5
        injection h5 with _ h6
        exact absurd h6 (by decide)
    · obtain ⟨cs, m, hh⟩ := hrow g e
      exact ⟨cs, _, m, hh, by decide⟩
/-- What holds in the second loop. -/
structure StB (w wr : World) (av ov : Value) (Ts : List (List (List Int))) (ac : List Value) (ps : List (List Int × Int)) (pc : List Value) : Prop where
  al : O3 wr w.heap.size av Ts ac
  ps : OP wr w.heap.size w.heap.size ov ps pc
  bel : Below w.heap.size w wr
section
variable {w w1 w2 : World} {av ov ov' : Value} {Ts : List (List (List Int))} {ac pc pc' : List Value} {ps ps' : List (List Int × Int)}
theorem StB.below (h : StB w w1 av ov Ts ac ps pc) (b : Below w1.heap.size w1 w2) : StB w w2 av ov Ts ac ps pc := ⟨h.al.below b, OP.below h.ps b, h.bel.trans (b.mono h.bel.size)⟩
theorem StB.grow (h : StB w w1 av ov Ts ac ps pc) (hg : w1.grownBy w2 ov.ownBlock) (ho : OP w2 w.heap.size w.heap.size ov' ps' pc') : StB w w2 av ov' Ts ac ps' pc' :=
  ⟨h.al.keptE hg (OF.typed h.ps), ho, h.bel.grown hg h.bel.size fun k hk => (OF.lt h.ps k hk).1⟩
end
theorem stanS_grows (Ts : List (List (List Int))) : ∀ k, k ≤ Ts.length → Grows (stanS (Ts.take k)) k
  | 0, _ => by simpa [stanS] using grows_nil
  | k + 1, hk => by
    rw [stanS_take (by omega)]
    exact (stanS_grows Ts k (by omega)).add _
theorem stanS_mem {Ts : List (List (List Int))} : ∀ k, k ≤ Ts.length → ∀ x ∈ stanS (Ts.take k), ∃ T ∈ Ts, x.1 = shapeT T
  | 0, _, x, hx => by simp [stanS] at hx
  | k + 1, hk, x, hx => by
    rw [stanS_take (by omega)] at hx
    have hT : Ts.getD k [] ∈ Ts := by rw [List.getD, List.getElem?_eq_getElem (by omega)]; exact List.getElem_mem _
    rcases addP_shapes (stanS_grows Ts k (by omega)).srt (fun y hy => ((stanS_grows Ts k (by omega)).cnt y hy).1) hx with e | ⟨y, hy, e⟩
    · exact ⟨_, hT, e⟩
    · obtain ⟨T, h1, h2⟩ := stanS_mem k (by omega) y hy
      exact ⟨T, h1, by rw [← e, h2]⟩
end Go.Proofs.Ytgbojgmmingfdaa
