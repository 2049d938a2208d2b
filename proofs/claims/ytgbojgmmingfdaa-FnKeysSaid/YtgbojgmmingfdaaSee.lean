/- A slice of parts in a variable of its own; what turns where parts are gathered in it. -/
import Derived.Test.YtgbojgmmingfdaaIns
import Derived.Test.YtgbojgmmingfdaaDraw
import Derived.Test.YtgbojgmmingfdaaPlain
import Derived.Test.YtgbojgmmingfdaaWords
import Derived.Test.YtgbojgmmingfdaaShapes
import Derived.Deep.RegionHeld3
import Derived.Deep.DeepCutAuto
import Derived.Deep.CutRange
import Derived.Deep.OwnRows
namespace Go.Proofs.Ytgbojgmmingfdaa
open Go.RowKit

/-- Nothing but block g and the row of v has turned. -/
structure Turn (g : Nat) (v : Value) (w w' : World) : Prop where
  os : w'.os = w.os
  tape : w'.tape = w.tape
  output : w'.output = w.output
  size : w.heap.size ≤ w'.heap.size
  block : ∀ k, k < w.heap.size → k ≠ g → v.ownBlock ≠ some k → w'.heap[k]? = w.heap[k]?
section
variable {g : Nat} {v v1 : Value} {w w1 w2 : World}
theorem Turn.refl (g : Nat) (v : Value) (w : World) : Turn g v w w := ⟨rfl, rfl, rfl, Nat.le_refl _, fun _ _ _ _ => rfl⟩
theorem Turn.of_below (h : Below w.heap.size w w1) : Turn g v w w1 := ⟨h.os, h.tape, h.output, h.size, fun k hk _ _ => h.block k hk⟩
theorem Turn.of_grown (h : w.grownBy w1 v.ownBlock) : Turn g v w w1 := ⟨h.os, h.tape, h.output, h.size, fun k hk _ hne => h.block k hk (Ne.symm hne)⟩
theorem Turn.trans (h : Turn g v w w1) (hf : From w v v1) (k : Turn g v1 w1 w2) : Turn g v w w2 :=
  ⟨k.os.trans h.os, k.tape.trans h.tape, k.output.trans h.output, Nat.le_trans h.size k.size, fun i hi hg hne => by
    refine (k.block i (Nat.lt_of_lt_of_le hi h.size) hg fun e => ?_).trans (h.block i hi hg hne)
    rcases hf with hf | hf
    · exact hne (by rw [← hf, e])
    · have := hf i e; omega⟩
theorem Turn.store (h : Turn g v w w1) (j : Nat) (u : Value) : Turn g v w (w1.setCell ⟨g, j, none⟩ u) :=
  ⟨h.os, h.tape, h.output, by simpa [World.setCell] using h.size, fun i hi hg hne => (Below.heap_setCell _ _ _ _ (by simpa using hg)).trans (h.block i hi hg hne)⟩
theorem Turn.row {G : Nat} (h : Turn g v w w1) (hf : From w v v1) (hG : v1.ownBlock = some G) (j : Nat) (u : Value) : Turn g v w (w1.setCell ⟨G, j, none⟩ u) :=
  ⟨h.os, h.tape, h.output, by simpa [World.setCell] using h.size, fun i hi hg hne => by
    refine (Below.heap_setCell _ _ _ _ (fun e => ?_)).trans (h.block i hi hg hne)
    simp only at e
    subst e
    rcases hf with hf | hf
    · exact hne (by rw [← hf, hG])
    · have := hf i hG; omega⟩
theorem Turn.drewN (h : Turn g v w w1) (n : Nat) : Turn g v w (w1.drewN n) := ⟨h.os, h.tape, h.output, h.size, h.block⟩
theorem Turn.below {B base b : Nat} {ps : List (List Int × Int)} {cells : List Value} (h : Turn g v w w1) (hg : B ≤ g) (ho : OP w base b v ps cells) (hb : B ≤ base) (hs : B ≤ w.heap.size) : Below B w w1 :=
  ⟨h.os, h.tape, h.output, h.size, fun k hk => h.block k (by omega) (by omega) fun e => by have := (OF.lt ho k e).1; omega⟩
end

/-- A slice that reads as numbers and lies in a block of numbers. -/
structure RT (w : World) (A : Option Addr) (n : Nat) (l : List Int) : Prop where
  ri : RI w A n l
  ty : ∀ ad, A = some ad → 0 < n → ∃ cs m, w.heap[ad.block]? = some (.cells cs 3 m)
/-- The parts gathered in block g. -/
structure VO (w : World) (g base b : Nat) (v : Value) (ps : List (List Int × Int)) (cells : List Value) : Prop where
  cel : BK w g 32 [v]
  own : OP w base b v ps cells
theorem RT.turn {w w' : World} {g base b : Nat} {v : Value} {ps : List (List Int × Int)} {cells : List Value} {A : Option Addr} {n : Nat} {l : List Int} (h : RT w A n l) (ho : VO w g base b v ps cells) (t : Turn g v w w') : RT w' A n l := by
  have key : ∀ ad, A = some ad → 0 < n → w'.heap[ad.block]? = w.heap[ad.block]? := fun ad e hn => by
    obtain ⟨cs, m, hb⟩ := h.ty ad e hn
    have hlt : ad.block < w.heap.size := by
      by_cases h1 : ad.block < w.heap.size
      · exact h1
      · rw [Array.getElem?_eq_none (by omega)] at hb; cases hb
    refine t.block _ hlt (fun e2 => ?_) fun e2 => ?_
    · have hc := ho.cel
      unfold BK at hc
      rw [← e2, hb] at hc
      injection hc with hc
      injection hc with _ hc
      exact absurd hc (by decide)
    · obtain ⟨cs', m', hh⟩ := OF.typed ho.own _ e2
      rw [hb] at hh
      injection hh with hh
      injection hh with _ hh
      exact absurd hh (by decide)
  refine ⟨⟨h.ri.1, fun hn => ?_⟩, fun ad e hn => ?_⟩
  · obtain ⟨ad, e, hc⟩ := h.ri.2 hn
    refine ⟨ad, e, fun j hj => ?_⟩
    have hc1 := hc j hj
    unfold World.cell? at hc1 ⊢
    rw [show (ad.add j).block = ad.block from block_of_add ad j] at hc1 ⊢
    rw [key ad e hn]
    exact hc1
  · obtain ⟨cs, m, hb⟩ := h.ty ad e hn
    exact ⟨cs, m, by rw [key ad e hn]; exact hb⟩
theorem RT.of_OI {w : World} {base : Nat} {A : Option Addr} {n c : Nat} {l : List Int} (h : OI w base (.slice A n c) l) : RT w A n l := by
  refine ⟨h.ri, fun ad e hn => ?_⟩
  rcases h.2 with ⟨he, _⟩ | ⟨g, cap, cur, he, hb, hg, _⟩
  · obtain ⟨rfl, -, -⟩ := slice_inj he; cases e
  · obtain ⟨rfl, -, -⟩ := slice_inj he
    injection e with e
    subst e
    exact ⟨_, _, hg⟩
theorem RT.below {w w' : World} {A : Option Addr} {n : Nat} {l : List Int} (h : RT w A n l) (b : Below w.heap.size w w') : RT w' A n l :=
  ⟨h.ri.below b, fun ad e hn => by
    obtain ⟨cs, m, hb⟩ := h.ty ad e hn
    have hlt : ad.block < w.heap.size := by
      by_cases h1 : ad.block < w.heap.size
      · exact h1
      · rw [Array.getElem?_eq_none (by omega)] at hb; cases hb
    exact ⟨cs, m, (b.block _ hlt).trans hb⟩⟩
theorem VO.below {w w' : World} {g base b : Nat} {v : Value} {ps : List (List Int × Int)} {cells : List Value} (h : VO w g base b v ps cells) (hb : Below w.heap.size w w') : VO w' g base b v ps cells :=
  ⟨h.cel.below hb h.cel.lt, OP.below h.own hb⟩
theorem VO.ne {w : World} {g base b : Nat} {v : Value} {ps : List (List Int × Int)} {cells : List Value} (h : VO w g base b v ps cells) : v.ownBlock ≠ some g := fun e => by
  obtain ⟨cs, m, hh⟩ := OF.typed h.own _ e
  have hc := h.cel
  unfold BK at hc
  rw [hh] at hc
  injection hc with hc
  injection hc with _ hc
  exact absurd hc (by decide)
theorem OP.frozen {w : World} {base b g n c : Nat} {ps : List (List Int × Int)} {cells : List Value} (h : OP w base b (.slice (some ⟨g, 0, none⟩) n c) ps cells) (j : Nat) : w.frozen? ⟨g, j, none⟩ = false := by
  have hn : n = ps.length := by
    obtain ⟨A, c', hv, _⟩ := OF.form h
    injection hv
  subst hn
  exact OF.frozenF h j
/-- The variable is written. -/
theorem VO.put {w : World} {g base b : Nat} {v v' : Value} {ps : List (List Int × Int)} {cells : List Value} (hk : BK w g 32 [v]) (ho : OP w base b v' ps cells) (hne : v'.ownBlock ≠ some g) : VO (w.setCell ⟨g, 0, none⟩ v') g base b v' ps cells := by
  have hg := BK.grown hk 0 v'
  refine ⟨hk.set 0 v', OF.kept ho hg ?_ fun g' e => ?_⟩
  · rcases h : v'.ownBlock with _ | k
    · exact .inl rfl
    · exact .inr (by rw [← h]; exact hne)
  · injection e with e
    subst e
    exact ⟨_, _, _, hk, by decide⟩
/-- A count among the parts is written. -/
theorem partF_set (ps : List (List Int × Int)) (p : Nat) (y : Int) (h : p < ps.length) : (partF ps).set (p * 2 + 1) (.inl y) = partF (ps.take p ++ [((nthP ps p).1, y)] ++ ps.drop (p + 1)) := by
  induction ps generalizing p with
  | nil => simp at h
  | cons q r ih =>
    cases p with
    | zero => simp [partF, nthP]
    | succ p =>
      have := ih p (by simpa using h)
      have e : (p + 1) * 2 + 1 = p * 2 + 1 + 1 + 1 := by omega
      have e2 : nthP (q :: r) (p + 1) = nthP r p := by simp [nthP, List.getD]
      simp only [partF, List.flatMap_cons] at this ⊢
      rw [e, e2]
      simp only [List.cons_append, List.nil_append, List.set_cons_succ, List.take_succ_cons, List.drop_succ_cons, List.flatMap_cons]
      rw [this]
theorem set_len (ps : List (List Int × Int)) (p : Nat) (x : List Int × Int) (h : p < ps.length) : (ps.take p ++ [x] ++ ps.drop (p + 1)).length = ps.length := by simp; omega
theorem OP.setCount {w : World} {base b g n c p : Nat} {ps : List (List Int × Int)} {cells : List Value} (h : OP w base b (.slice (some ⟨g, 0, none⟩) n c) ps cells) (hp : p < ps.length) (y : Int) :
    OP (w.setCell ⟨g, p * 2 + 1, none⟩ (.int .i64 y)) base b (.slice (some ⟨g, 0, none⟩) n c) (ps.take p ++ [((nthP ps p).1, y)] ++ ps.drop (p + 1)) (cells.set (p * 2 + 1) (.int .i64 y)) ∧ w.grownBy (w.setCell ⟨g, p * 2 + 1, none⟩ (.int .i64 y)) (some g) := by
  have hn : n = ps.length := by
    obtain ⟨A, c', hv, _⟩ := OF.form h
    injection hv
  subst hn
  obtain ⟨h1, h2⟩ := OF.setInt h (by decide) (partF_at1 hp) y
  refine ⟨?_, h2⟩
  unfold OP
  rw [set_len ps p _ hp, ← partF_set ps p y hp]
  exact h1
/-- What a call of a gathering closure leaves. -/
def Sees (w : World) (g base b : Nat) (v : Value) (ps : List (List Int × Int)) : Ending → World → Prop := fun e w' =>
  ∃ v' cells', e = .returned (.tuple #[]) ∧ VO w' g base b v' ps cells' ∧ Turn g v w w' ∧ From w v v'
end Go.Proofs.Ytgbojgmmingfdaa

/- The closure of fillings: one shape more. -/
namespace Go.Proofs.Ytgbojgmmingfdaa
open Go.RowKit

theorem fnd_yes {ps : List (List Int × Int)} {s : List Int} {p : Nat} (h : fndB ps s p = true) : p < ps.length ∧ (nthP ps p).1 = s := by simpa [fndB] using h
theorem fnd_no {ps : List (List Int × Int)} {s : List Int} {p : Nat} (h : fndB ps s p = false) : p < ps.length → (nthP ps p).1 ≠ s := by
  intro h1 h2
  have : fndB ps s p = true := by simp [fndB, h1, h2]
  rw [h] at this; cases this
theorem putAt_at {ps : List (List Int × Int)} {p : Nat} (h : p ≤ ps.length) (x : List Int × Int) : nthP (putAt ps p [x]) p = x := by
  unfold nthP putAt List.getD
  rw [List.append_assoc, List.getElem?_append_right (by simp; omega)]
  have : p - (ps.take p).length = 0 := by simp; omega
  rw [this]
  rfl
theorem putAt_again {ps : List (List Int × Int)} {p : Nat} (h : p ≤ ps.length) (x y : List Int × Int) : (putAt ps p [x]).take p ++ [y] ++ (putAt ps p [x]).drop (p + 1) = putAt ps p [y] := by
  unfold putAt
  have hl : (ps.take p).length = p := by simp; omega
  have e1 : (ps.take p ++ [x] ++ ps.drop p).take p = ps.take p := by
    rw [List.append_assoc, List.take_append_of_le_length (by omega), List.take_of_length_le (by omega)]
  have e2 : (ps.take p ++ [x] ++ ps.drop p).drop (p + 1) = ps.drop p := by
    have h2 : (ps.take p ++ [x]).length = p + 1 := by simp; omega
    rw [← h2, List.drop_left]
  rw [e1, e2]

set_option maxRecDepth 100000 in
set_option maxHeartbeats 2000000 in
theorem see_any {w : World} {g base b n : Nat} {A : Option Addr} {s : List Int} {v : Value} {ps : List (List Int × Int)} {cells : List Value} {N : Int} (c : Nat) (hx : RI w A n s) (hc : n ≤ c) (hn : n ≤ 1000000) (ho : VO w g base b v ps cells)
    (hG : Grows ps N) (hN : N ≤ 100000000000) (hl : ∀ k, k < ps.length → (nthP ps k).1.length ≤ 1000000) (hb1 : base ≤ w.heap.size) (hb2 : b ≤ w.heap.size) :
    Calls Try.prog 176 #[.slice A n c, .pointer (some ⟨g, 0, none⟩)] w (Sees w g base b v (addP ps (bare s) 1)) := by
  obtain ⟨A0, n0, c0, rfl, hn0, hc0, hc63⟩ := ho.own.form
  obtain ⟨p, hp⟩ := place_of ps hG.srt (bare s)
  have hple := hp.le
  have hln := hG.len
  rw [hn0] at hple hln
  have HN0 := Lib.hid hn0
  have HL := Lib.hid hx.1
  have hglt := ho.cel.lt
  have HLEN : Hid (∀ k, k < ps.length → (nthP ps k).1.length ≤ 1000000000000) := fun k hk => Nat.le_trans (hl k hk) (by omega)
  clear hn0 hl
  go_enter Try.func176, Try.ntmps176
  go_wp2_with (go_at_call 177; refine (shapeOfRows_any _ hx (by omega) hc).mono ?_; rintro e w' ⟨rfl, q0, rfl⟩)
  have hbl := bareLen_le s n
  refine (clone_any _ ((hx.drewN q0).take hbl) (by omega)).mono ?_
  rintro e w1 ⟨A1, n1, c1, rfl, o1, r1, ⟨cp1, le1⟩, b1⟩
  have hbe : s.take (bareLen s n) = bare s := by unfold bare; rw [HL.out]
  rw [hbe] at o1 r1
  clear hbe
  have g1 : Below w.heap.size w w1 := bnext (Quiet.below ⟨_, rfl⟩) b1 (by simp)
  have ho1 := ho.below g1
  have hcel1 := ho1.cel.cell (j := 0) rfl
  have hs1 := g1.size
  clear b1
  go_wp2_with fail
  have hn1 : n1 ≤ 1000000 := by
    rw [← r1.1]
    unfold bare
    rw [List.length_take, HL.out]
    omega
  refine (bin_fill _ _ ho1.own r1 hp (by omega) (by omega) HLEN.out).mono ?_
  rintro e w2 ⟨rfl, b2⟩
  have g2 := bnext g1 b2 g1.size
  have ho2 := ho1.below b2
  have o2 := o1.below b2
  have hcel2 := ho2.cel.cell (j := 0) rfl
  have hs2 := b2.size
  have t2 : Turn g (.slice A0 n0 c0) w w2 := Turn.of_below g2
  clear ho1 hcel1 o1 r1 b2
  rcases hf : fndB ps (bare s) p with _ | _
  · -- a new shape
    have hfn := fnd_no hf
    have HADD := Lib.hid (addP_new (n := 1) (by omega) hp hfn)
    clear hf hfn
    have hap : ∀ u' ∈ cells, u'.ownBlock = none ∨ u'.ownBlock ≠ Value.ownBlock (.slice A1 n1 c1) := by
      intro u' hu'
      have hin := FRs.in_ ho.own.2.1 u' hu'
      rcases hk : u'.ownBlock with _ | k
      · exact .inl rfl
      · refine .inr fun e => ?_
        have h1 := hin k hk
        have h2 := (o2.lt k e.symm).1
        simp at h2
        omega
    have HAP := Lib.hid hap
    clear hap
    go_wp2_with fail
    refine (insert_any (y := 0) c0 ho2.own (o2.mono (by simpa using hb2)) HAP.out hple (by omega) (by omega)).mono ?_
    rintro e w3 ⟨v3, cells3, rfl, o3, gr3, f3⟩
    obtain ⟨A3, n3, c3, rfl, hn3, hc3, hc363⟩ := o3.form
    have hn3' : n3 = n0 + 1 := by rw [← hn3, putAt_len _ _ _ (by rw [HN0.out]; exact hple), HN0.out]; rfl
    subst hn3'
    obtain ⟨G, cc, hGG, hGb, hGlt⟩ := OF.shape o3 (by rw [hn3]; omega)
    obtain ⟨rfl, e2, e3⟩ := slice_inj hGG
    clear e2 e3 hGG
    have hpl3 : p < (putAt ps p [(bare s, (0 : Int))]).length := by rw [hn3]; omega
    obtain ⟨A4, n4, c4, k1, _, k2, _, k4⟩ := OP.cell o3 hpl3
    rw [putAt_at (by rw [HN0.out]; exact hple)] at k4
    have hfz : w3.frozen? ⟨G, p * 2 + 1, none⟩ = false := OP.frozen o3 _
    have hvne := ho2.ne
    have hk3 : BK w3 g 32 [.slice A0 n0 c0] := (gr3.block g (by simp; omega) (Ne.symm hvne)).trans (ho2.cel.alloc _)
    have hGg : G ≠ g := by
      intro e
      subst e
      rcases f3 with f3 | f3
      · exact hvne (f3.symm.trans rfl)
      · have := f3 G rfl; simp at this; omega
    have hv4 := VO.put hk3 o3 (fun e => hGg (Option.some.inj e))
    have hcg := hk3.cell (j := 0) rfl
    have hfg : w3.frozen? ⟨g, 0, none⟩ = false := hk3.frozen
    have hF : From w (.slice A0 n0 c0) (.slice (some ⟨G, 0, none⟩) (n0 + 1) c3) := f3.imp id fun h k hk => by have := h k hk; simp at this; omega
    have t3 := (t2.trans (From.refl _ _) (Turn.of_below ((Below.refl _ _).alloc (Nat.le_refl _) (.cells #[.slice A1 n1 c1, .int .i64 0] 47)))).trans (From.refl _ _) (Turn.of_grown gr3)
    have t4 := ((t3.store 0 (.slice (some ⟨G, 0, none⟩) (n0 + 1) c3)).row hF rfl (p * 2 + 1) (.int .i64 1))
    obtain ⟨o5, gr5⟩ := OP.setCount hv4.own hpl3 1
    have hfin : Sees w g base b (.slice A0 n0 c0) (addP ps (bare s) 1) (.returned (.tuple #[])) ((w3.setCell ⟨g, 0, none⟩ (.slice (some ⟨G, 0, none⟩) (n0 + 1) c3)).setCell ⟨G, p * 2 + 1, none⟩ (.int .i64 1)) := by
      rw [HADD.out]
      rw [putAt_at (by rw [HN0.out]; exact hple), putAt_again (by rw [HN0.out]; exact hple)] at o5
      exact ⟨_, _, rfl, ⟨hv4.cel.far hGg _ _, o5⟩, t4, hF⟩
    have HF := Lib.hid hfin
    have hpn : p < n0 + 1 := by omega
    have k4' : (w3.setCell ⟨g, 0, none⟩ (.slice (some ⟨G, 0, none⟩) (n0 + 1) c3)).cell? ⟨G, p * 2 + 1, none⟩ = some (.int .i64 0) := cell_low (hk3.grown 0 _) hGg k4
    clear hfin o5 gr5 t4 t3 hF hv4 hvne f3 gr3 t2 g2 g1
    go_wp2
    go_end0
    exact HF.out
  · -- a shape that was there
    obtain ⟨hpl, hpe⟩ := fnd_yes hf
    have hcnt := hG.cnt _ (nthP_mem hpl)
    have HADD := Lib.hid (addP_found (n := 1) (by omega) hp.lo hpl hpe (by omega))
    obtain ⟨G, cc, hGG, hGb, hGlt⟩ := OF.shape ho2.own (by omega)
    obtain ⟨rfl, e2, e3⟩ := slice_inj hGG
    clear e2 e3 hGG hf
    obtain ⟨A4, n4, c4, k1, _, k2, _, k4⟩ := OP.cell ho2.own hpl
    have hfz : w2.frozen? ⟨G, p * 2 + 1, none⟩ = false := OP.frozen ho2.own _
    have hGg : G ≠ g := fun e => ho2.ne (by rw [e]; rfl)
    obtain ⟨x, hx2⟩ : ∃ x, x = (nthP ps p).2 := ⟨_, rfl⟩
    rw [← hx2] at k4 hcnt
    obtain ⟨o5, gr5⟩ := OP.setCount ho2.own hpl (x + 1)
    have t4 := t2.row (From.refl _ _) rfl (p * 2 + 1) (.int .i64 (x + 1))
    have hfin : Sees w g base b (.slice (some ⟨G, 0, none⟩) n0 c0) (addP ps (bare s) 1) (.returned (.tuple #[])) (w2.setCell ⟨G, p * 2 + 1, none⟩ (.int .i64 (x + 1))) := by
      rw [HADD.out, ← hx2]
      rw [hpe] at o5
      exact ⟨_, _, rfl, ⟨ho2.cel.far hGg _ _, o5⟩, t4, From.refl _ _⟩
    have HF := Lib.hid hfin
    have hpn : p < n0 := by rw [← HN0.out]; exact hpl
    clear hfin o5 gr5 t4 t2 g2 g1 hx2 hpe hpl
    go_wp2
    go_end0
    exact HF.out
end Go.Proofs.Ytgbojgmmingfdaa

/- layer of the program: all ways to put a content into the rows of a shape. -/
namespace Go.Proofs.Ytgbojgmmingfdaa
open Go.RowKit

theorem addr_succ (a : Addr) (j : Nat) : a.add (j + 1) = ⟨a.block, a.off + (j + 1), none⟩ := by unfold Addr.add; simp
theorem nth_cons' (a : Int) (l : List Int) (j : Nat) : nth (a :: l) (j + 1) = nth l j := by simp [nth, List.getD]
/-- The bound that the row before lays. -/
def UV (w : World) (rows : Nat) (vu : Value) : Option (List Int) → Prop
  | none => vu = .slice none 0 0
  | some u => ∃ au cu, vu = .slice (some au) rows cu ∧ RT w (some au) rows u ∧ Bd u 100000
theorem UV.turn {w w' : World} {g base b rows : Nat} {v vu : Value} {ps : List (List Int × Int)} {cells : List Value} {under : Option (List Int)} (h : UV w rows vu under) (ho : VO w g base b v ps cells) (t : Turn g v w w') : UV w' rows vu under := by
  cases under with
  | none => exact h
  | some u =>
    obtain ⟨au, cu, h1, h2, h3⟩ := h
    exact ⟨au, cu, h1, h2.turn ho t, h3⟩
theorem UV.below {w w' : World} {rows : Nat} {vu : Value} {under : Option (List Int)} (h : UV w rows vu under) (b : Below w.heap.size w w') : UV w' rows vu under := by
  cases under with
  | none => exact h
  | some u =>
    obtain ⟨au, cu, h1, h2, h3⟩ := h
    exact ⟨au, cu, h1, h2.below b, h3⟩
/-- What layer asks. -/
structure Lay (rows d : Nat) (most : Int) (shape old put : List Int) (L : Nat) (rest : List Nat) : Prop where
  rows16 : rows ≤ 16
  most0 : 0 ≤ most ∧ most ≤ 1000
  d_le : d ≤ rows
  lsh : shape.length = rows
  lold : old.length = rows
  lput : put.length = rows
  bsh : Bd shape 1000
  bold : Bd old 1000
  bput : Bd put 1000
  same : ∀ j, rows - d ≤ j → nth shape j = nth old j
  left : L ≤ 1000
  cont : ∀ c ∈ rest, c ≤ 1000
abbrev fI (l : List Nat) : List Int := l.map fun c : Nat => (c : Int)

theorem made_OI (w : World) (n : Nat) (hn : n ≤ 1000000000) : OI (w.alloc (.cells (madeCells #[Value.int .i64 0] n) 3)) w.heap.size (.slice (some ⟨w.heap.size, 0, none⟩) n n) (List.replicate n 0) := by
  have e : (madeCells #[Value.int .i64 0] n).toList = cellsI (List.replicate n 0) := by
    have := toList_madeCells_one (.int .i64 0) n
    rw [this]
    simp [cellsI]
  have e2 : madeCells #[Value.int .i64 0] n = (cellsI (List.replicate n 0)).toArray := by rw [← e]
  rw [e2]
  exact OI.lit w w.heap.size (List.replicate n 0) n (by simp) (Nat.le_refl _) (by simp; omega)
theorem Sees.from_ {w X w' : World} {g base b : Nat} {v : Value} {ps : List (List Int × Int)} {e : Ending} (h : Below w.heap.size w X) (s : Sees X g base b v ps e w') : Sees w g base b v ps e w' := by
  obtain ⟨v', cells', he, ho, t, f⟩ := s
  exact ⟨v', cells', he, ho, (Turn.of_below h).trans (From.refl _ _) t, f.imp id fun h2 k hk => Nat.le_trans h.size (h2 k hk)⟩
/-- What layer is shown to do. -/
def LayerP (rest : List Nat) (d : Nat) : Prop := ∀ (w : World) (g base b rows : Nat) (most : Int) (As Ac Ao Ap : Option Addr) (cs cc co cp : Nat) (c0 : Int) (shape old put : List Int) (L : Nat) (vu v : Value) (under : Option (List Int))
    (ps : List (List Int × Int)) (cells : List Value) (N r left nc : Int),
    RT w As rows shape → rows ≤ cs → RT w Ac (rest.length + 1) (c0 :: fI rest) → rest.length + 1 ≤ cc → cc ≤ 9223372036854775807 → RT w Ao rows old → RT w Ap rows put → rows ≤ cp → UV w rows vu under → VO w g base b v ps cells →
    Lay rows d most shape old put L rest → r = ((rows - d : Nat) : Int) → left = (L : Int) → Okp ps N →
    N + (layerR rows most (layerK rows most (fI rest)) old under d shape L put).length ≤ 100000000000 → base ≤ w.heap.size → b ≤ w.heap.size →
    Calls Try.prog 179 #[.slice As rows cs, .slice Ac (rest.length + 1) cc, .slice Ao rows co, .int .i64 r, .int .i64 left, vu, .slice Ap rows cp, .int .i64 most, .func (.func 176) #[] #[.pointer (some ⟨g, 0, none⟩)]] w
      (Sees w g base b v (addAll ps (layerR rows most (layerK rows most (fI rest)) old under d shape L put)))

set_option maxRecDepth 100000 in
set_option maxHeartbeats 4000000 in
theorem layer_zero (rest : List Nat) (ih : ∀ c rest', rest = c :: rest' → ∀ d, LayerP rest' d) : LayerP rest 0 := by
  intro w g base b rows most As Ac Ao Ap cs cc co cp c0 shape old put L vu v under ps cells N r left nc hs hcs hcont hcc hcc63 hold hput hcp hu ho hl hr hL hok hN hb1 hb2
  subst hr hL
  have h16 := hl.rows16
  by_cases hz : 0 < L
  · have HR := Lib.hid (layerR_end (rows := rows) (most := most) (K := layerK rows most (fI rest)) (old := old) (under := under) (shape := shape) (put := put) (left := (L : Int)) (by omega))
    go_enter Try.func179, Try.ntmps179
    go_wp2
    refine bodyPost_ret (results_none rfl _ _ _) rfl ?_
    rw [HR.out]
    exact ⟨_, cells, rfl, ho, Turn.refl _ _ _, From.refl _ _⟩
  obtain rfl : L = 0 := by omega
  have hRf := layerR_full (rows := rows) (most := most) (K := layerK rows most (fI rest)) (old := old) (under := under) (shape := shape) (put := put) (left := ((0 : Nat) : Int)) (by omega)
  rw [hRf] at hN
  have HR := Lib.hid hRf
  clear hRf hz
  cases rest with
  | nil =>
    have HRT := Lib.hid hs
    have hshl := hl.lsh
    go_enter Try.func179, Try.ntmps179
    go_wp2_with fail
    refine (see_any cs HRT.out.ri hcs (by omega) ho hok.grows (by have hN' := hN; rw [show layerK rows most (fI []) shape put = [shape] from rfl] at hN'; simp at hN'; omega) hok.len hb1 hb2).mono ?_
    rintro e w1 ⟨v1, cells1, rfl, ho1, t1, f1⟩
    go_wp2
    refine bodyPost_ret (results_none rfl _ _ _) rfl ?_
    rw [HR.out, show layerK rows most (fI []) shape put = [shape] from rfl, addAll_one]
    exact ⟨v1, cells1, rfl, ho1, t1, f1⟩
  | cons c rest =>
    have hlen : (c :: rest).length = rest.length + 1 := rfl
    have hfI : fI (c :: rest) = (c : Int) :: fI rest := rfl
    rw [hlen] at hcont hcc ⊢
    rw [hfI] at hcont hN
    have hbp := hl.bput
    have hlp := hl.lput
    have hsmall : Hid (∀ k, 0 ≤ sumTo put k ∧ sumTo put k ≤ 1000 * k) := fun k => hbp.sum k
    have HBP := Lib.hid hbp
    have IH := Lib.hid (ih c rest rfl rows)
    clear ih hlen
    go_enter Try.func179, Try.ntmps179
    go_wp2_with (at_make; refine wpMake rfl _ _ rfl rows _ _ rfl rfl rfl rfl (by omega) ?_; intro w2 o2 b2 s2)
    obtain ⟨G, hG⟩ : ∃ G, G = w.heap.size := ⟨_, rfl⟩
    have HGG := Lib.hid hG
    rw [← hG] at o2 s2
    rw [← hG]
    clear hG
    go_loopw [19, 20, 21, 43] (fun t _ _ i wr => ∃ k : Nat, k ≤ rows ∧ i = .int .i64 (k : Int) ∧ t = .int .i64 (sumTo put k) ∧ OI wr G (.slice (some ⟨G, 0, none⟩) rows rows) (prefTo put rows k) ∧ Below w.heap.size w wr) (fun _ _ _ i _ => rows - (intOf i).toNat)
    case atStart => exact ⟨0, Nat.zero_le _, rfl, rfl, by rw [prefTo_zero]; exact o2, b2⟩
    case round =>
      clear o2 b2
      obtain ⟨k, hk, rfl, rfl, hoi, hbl⟩ := hrel
      by_cases hlt : k < rows
      · obtain ⟨ad, hA, hc⟩ := (hput.ri.below hbl).cell hlt
        subst hA
        have hoc := hoi.cellAt hlt
        have hof := hoi.frozenAt k
        have hs1 := hsmall.out k
        have hs2 := HBP.out k
        have HS := Lib.hid (hoi.stored k (sumTo put k))
        have HN := Lib.hid (prefTo_set (put := put) (n := rows) hlt rfl)
        clear hoi
        go_wp2
        go_roundw
        case rel => exact ⟨k + 1, by omega, by go_num, rfl, by rw [← HN.out]; exact HS.out.1, hbl.setCell (by rw [HGG.out]; exact Nat.le_refl _) _⟩
        case measure => simp [intOf]; omega
      · obtain rfl : rows = k := by omega
        rw [prefTo_all] at hoi
        have hcw := hcont.below hbl
        obtain ⟨ad, hA, hc0⟩ := hcw.ri.cell (k := 1) (by omega)
        subst hA
        obtain ⟨ab, hab⟩ : ∃ ab, ab = ad.block := ⟨_, rfl⟩
        obtain ⟨ao, hao⟩ : ∃ ao, ao = ad.off := ⟨_, rfl⟩
        rw [addr_succ ad 0, ← hab, ← hao] at hc0
        rw [Nat.zero_add] at hc0
        have e1 : nth (c0 :: (c : Int) :: fI rest) 1 = (c : Int) := rfl
        rw [e1] at hc0
        have htail : RT wr (some ⟨ab, ao + 1, none⟩) (rest.length + 1) ((c : Int) :: fI rest) := by
          refine ⟨⟨by simp [fI], fun _ => ⟨_, rfl, fun j hj => ?_⟩⟩, fun ad' e' _ => ?_⟩
          · obtain ⟨ad2, e2, hc2⟩ := hcw.ri.cell (k := j + 1) (by omega)
            obtain rfl := Option.some.inj e2
            rw [addr_succ] at hc2
            rw [addr_at, hab, hao]
            rw [show ad.off + 1 + j = ad.off + (j + 1) by omega, hc2, nth_cons']
          · obtain rfl := Option.some.inj e'
            show ∃ cs m, wr.heap[ab]? = _
            rw [hab]
            exact hcw.ty ad rfl (by omega)
        have HSH : Hid (∀ W, Below wr.heap.size wr W → RT W As rows shape) := fun W bW => (hs.below hbl).below bW
        have HTL : Hid (∀ W, Below wr.heap.size wr W → RT W (some ⟨ab, ao + 1, none⟩) (rest.length + 1) ((c : Int) :: fI rest)) := fun W bW => htail.below bW
        have HNX : Hid (∀ W, Below wr.heap.size wr W → OI W G (.slice (some ⟨G, 0, none⟩) rows rows) (prefs put rows)) := fun W bW => hoi.below bW
        have HVO : Hid (∀ W, Below wr.heap.size wr W → VO W g base b v ps cells) := fun W bW => (ho.below hbl).below bW
        have HBL := Lib.hid hbl
        have HC1 := Lib.hid hc0
        have hcc1 : ¬ cc = 1 := by omega
        rw [hab, hao] at HTL HC1
        have HDA : Hid (∀ o, (wr.alloc o).drew.cell? ⟨ad.block, ad.off + 1, none⟩ = some (.int .i64 (c : Int))) := fun o => by
          have h1 : (wr.alloc o).cell? ⟨ad.block, ad.off + 1, none⟩ = some (.int .i64 (c : Int)) := one_cell ((Below.refl _ _).alloc (Nat.le_refl _) _) (by rw [hab, hao] at hc0; exact hc0)
          exact h1
        have HCF : Hid (∀ W, Turn g v w W → W.cell? ⟨ad.block, ad.off + 1, none⟩ = some (.int .i64 (c : Int))) := fun W tW => by
          obtain ⟨ad2, e2, hc2⟩ := (hcont.turn ho tW).ri.cell (k := 1) (by omega)
          obtain rfl := Option.some.inj e2
          rw [addr_succ ad 0, Nat.zero_add] at hc2
          exact hc2
        clear hab hao htail hcw hc0 e1 hoi hbl
        have hc1 := HC1.out
        have hr9 : rows ≤ 1000000000 := by omega
        have HVe : Hid (∀ W, VO W g base b v ps cells → VO W g base b v ps cells) := fun _ h => h
        have hq1 : (1 : Int) ≤ (rest.length : Int) + 1 + 1 := by omega
        have hq2 : (1 : Int) < (rest.length : Int) + 1 + 1 := by omega
        have hq3 : 1 < rest.length + 1 + 1 := by omega
        have hq4 : 1 ≤ rest.length + 1 + 1 := by omega
        have HCL : Hid (∀ W : World, RI W As rows shape → Calls Try.prog 134 #[.slice As rows cs] W (Makes W shape)) := fun W h => clone_any _ h hr9
        have rs1 : RI wr As rows shape := (HSH.out wr (Below.refl _ _)).ri
        have HLSH := Lib.hid hl.lsh
        have hlay : Lay rows rows most shape shape (List.replicate rows 0) c rest := ⟨h16, hl.most0, Nat.le_refl _, hl.lsh, hl.lsh, by simp, hl.bsh, hl.bsh, Bd.zeros _ (by omega), fun _ _ => rfl, hl.cont c List.mem_cons_self, fun x hx => hl.cont x (List.mem_cons_of_mem _ hx)⟩
        have HCALL : Hid (∀ (X : World) (AC : Option Addr) (cC : Nat) (Ag : Option Addr), Below wr.heap.size wr X → RT X AC rows shape → RT X Ag rows (List.replicate rows 0) →
            Calls Try.prog 179 #[.slice As rows cs, .slice (some ⟨ad.block, ad.off + 1, none⟩) (rest.length + 1) (cc - 1), .slice AC rows cC, .int .i64 0, .int .i64 (c : Int), .slice (some ⟨G, 0, none⟩) rows rows, .slice Ag rows rows, .int .i64 most, .func (.func 176) #[] #[.pointer (some ⟨g, 0, none⟩)]] X
              (Sees w g base b v (addAll ps (layerK rows most ((c : Int) :: fI rest) shape put)))) := fun X AC cC Ag bX h1 h2 => by
          have := IH.out X g base b rows most As (some ⟨ad.block, ad.off + 1, none⟩) AC Ag cs (cc - 1) cC rows (c : Int) shape shape (List.replicate rows 0) c (.slice (some ⟨G, 0, none⟩) rows rows) v (some (prefs put rows)) ps cells N 0 (c : Int) 0
            (HSH.out X bX) hcs (HTL.out X bX) (by omega) (by omega) h1 h2 (Nat.le_refl _) ⟨⟨G, 0, none⟩, rows, rfl, RT.of_OI (HNX.out X bX), HBP.out.prefs h16⟩ (HVO.out X bX) hlay (by simp) rfl hok (by rw [layerK_cons] at hN; exact hN)
            (Nat.le_trans hb1 (Nat.le_trans HBL.out.size bX.size)) (Nat.le_trans hb2 (Nat.le_trans HBL.out.size bX.size))
          exact this.mono fun e w' hh => Sees.from_ (HBL.out.trans (bX.mono HBL.out.size)) (by rw [layerK_cons]; exact hh)
        have hmk := run_make_row' (P := Try.prog) 22 3 (.int .i64 0) 8 Try.underlying22 Try.infoInt rfl .i64 .i64 rows (by omega) (by omega)
        clear IH hlay hN hok hs hold hput hu ho hcont
        go_wp2
        go_region_held3 (fun w' => w'.cell? ⟨ad.block, ad.off + 1, none⟩ = some (.int .i64 (c : Int))) (first | exact hc1 | exact HCF.out _ ht' | exact HDA.out _ | exact one_cell bM HC1.out | exact one_cell bC HC1.out | exact one_cell (bC.alloc bC.size _) HC1.out | exact one_cell ((Below.refl _ _).alloc (Nat.le_refl _) _) HC1.out) (first
          | (go_at_call 134; (with_reducible refine (HCL.out _ ?_).mono ?_); (first | exact rs1 | exact rs1.alloc _); rintro e wC ⟨AC, nC, cC, rfl, oC, rC, ⟨cpC, leC⟩, bC'⟩; have bC : Below wr.heap.size wr wC := (by first | exact ⟨bC'.os, bC'.tape, bC'.output, bC'.size, bC'.block⟩ | exact ((Below.refl wr.heap.size wr).alloc (Nat.le_refl _) _).trans ((show Below (wr.alloc _).heap.size (wr.alloc _) wC from ⟨bC'.os, bC'.tape, bC'.output, bC'.size, bC'.block⟩).mono (by simp))); obtain rfl : rows = nC := HLSH.out.symm.trans rC.1)
          | (go_at_call 179; (with_reducible refine (HCALL.out _ _ _ _ ?_ ?_ ?_).mono ?_); (first | exact bC.alloc bC.size _ | exact bC); (first | exact RT.of_OI (OI.alloc oC _) | exact RT.of_OI oC); (first | exact RT.of_OI (made_OI wC rows hr9) | exact RT.of_OI (OI.below (made_OI wr rows hr9) (show Below (wr.alloc _).heap.size (wr.alloc _) wC from ⟨bC'.os, bC'.tape, bC'.output, bC'.size, bC'.block⟩))); rintro e wF ⟨v', cells', rfl, hv', ht', hf'⟩))
        all_goals go_wp2
        all_goals refine bodyPost_ret (results_none rfl _ _ _) rfl ?_
        all_goals rw [HR.out]
        all_goals exact ⟨v', cells', rfl, hv', ht', hf'⟩
end Go.Proofs.Ytgbojgmmingfdaa
