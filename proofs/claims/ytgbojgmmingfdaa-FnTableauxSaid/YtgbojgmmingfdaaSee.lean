/- A slice of parts in a variable of its own; what turns where parts are gathered in it. -/
import Derived.Test.YtgbojgmmingfdaaIns
import Derived.Test.YtgbojgmmingfdaaDraw
import Derived.Test.YtgbojgmmingfdaaPlain
import Derived.Test.YtgbojgmmingfdaaWords
namespace Go.Proofs.Ytgbojgmmingfdaa
open Go.RowKit

/-- Nothing but block g and the row of v has turned. -/
structure Turn (g : Nat) (v : Value) (w w' : World) : Prop where
  os : w'.os = w.os
  tape : w'.tape = w.tape
  output : w'.output = w.output
  size : w.heap.size ≤ w'.heap.size
  block : ∀ k, k < w.heap.size → k ≠ g → v.ownBlock ≠ some k → w'.heap[k]? = w.heap[k]?
section
variable {g : Nat} {v v1 : Value} {w w1 w2 : World}
theorem Turn.refl (g : Nat) (v : Value) (w : World) : Turn g v w w := ⟨rfl, rfl, rfl, Nat.le_refl _, fun _ _ _ _ => rfl⟩
theorem Turn.of_below (h : Below w.heap.size w w1) : Turn g v w w1 := ⟨h.os, h.tape, h.output, h.size, fun k hk _ _ => h.block k hk⟩
theorem Turn.of_grown (h : w.grownBy w1 v.ownBlock) : Turn g v w w1 := ⟨h.os, h.tape, h.output, h.size, fun k hk _ hne => h.block k hk (Ne.symm hne)⟩
theorem Turn.trans (h : Turn g v w w1) (hf : From w v v1) (k : Turn g v1 w1 w2) : Turn g v w w2 :=
  ⟨k.os.trans h.os, k.tape.trans h.tape, k.output.trans h.output, Nat.le_trans h.size k.size, fun i hi hg hne => by
    refine (k.block i (Nat.lt_of_lt_of_le hi h.size) hg fun e => ?_).trans (h.block i hi hg hne)
    rcases hf with hf | hf
    · exact hne (by rw [← hf, e])
    · have := hf i e; omega⟩
theorem Turn.store (h : Turn g v w w1) (j : Nat) (u : Value) : Turn g v w (w1.setCell ⟨g, j, none⟩ u) :=
  ⟨h.os, h.tape, h.output, by simpa [World.setCell] using h.size, fun i hi hg hne => (Below.heap_setCell _ _ _ _ (by simpa using hg)).trans (h.block i hi hg hne)⟩
theorem Turn.row {G : Nat} (h : Turn g v w w1) (hf : From w v v1) (hG : v1.ownBlock = some G) (j : Nat) (u : Value) : Turn g v w (w1.setCell ⟨G, j, none⟩ u) :=
  ⟨h.os, h.tape, h.output, by simpa [World.setCell] using h.size, fun i hi hg hne => by
    refine (Below.heap_setCell _ _ _ _ (fun e => ?_)).trans (h.block i hi hg hne)
    simp only at e
    subst e
    rcases hf with hf | hf
    · exact hne (by rw [← hf, hG])
    · have := hf i hG; omega⟩
theorem Turn.drewN (h : Turn g v w w1) (n : Nat) : Turn g v w (w1.drewN n) := ⟨h.os, h.tape, h.output, h.size, h.block⟩
theorem Turn.below {B base b : Nat} {ps : List (List Int × Int)} {cells : List Value} (h : Turn g v w w1) (hg : B ≤ g) (ho : OP w base b v ps cells) (hb : B ≤ base) (hs : B ≤ w.heap.size) : Below B w w1 :=
  ⟨h.os, h.tape, h.output, h.size, fun k hk => h.block k (by omega) (by omega) fun e => by have := (OF.lt ho k e).1; omega⟩
end

/-- A slice that reads as numbers and lies in a block of numbers. -/
structure RT (w : World) (A : Option Addr) (n : Nat) (l : List Int) : Prop where
  ri : RI w A n l
  ty : ∀ ad, A = some ad → 0 < n → ∃ cs m, w.heap[ad.block]? = some (.cells cs 3 m)
/-- The parts gathered in block g. -/
structure VO (w : World) (g base b : Nat) (v : Value) (ps : List (List Int × Int)) (cells : List Value) : Prop where
  cel : BK w g 32 [v]
  own : OP w base b v ps cells
theorem RT.turn {w w' : World} {g base b : Nat} {v : Value} {ps : List (List Int × Int)} {cells : List Value} {A : Option Addr} {n : Nat} {l : List Int} (h : RT w A n l) (ho : VO w g base b v ps cells) (t : Turn g v w w') : RT w' A n l := by
  have key : ∀ ad, A = some ad → 0 < n → w'.heap[ad.block]? = w.heap[ad.block]? := fun ad e hn => by
    obtain ⟨cs, m, hb⟩ := h.ty ad e hn
    have hlt : ad.block < w.heap.size := by
      by_cases h1 : ad.block < w.heap.size
      · exact h1
      · rw [Array.getElem?_eq_none (by omega)] at hb; cases hb
    refine t.block _ hlt (fun e2 => ?_) fun e2 => ?_
    · have hc := ho.cel
      unfold BK at hc
      rw [← e2, hb] at hc
      injection hc with hc
      injection hc with _ hc
      exact absurd hc (by decide)
    · obtain ⟨cs', m', hh⟩ := OF.typed ho.own _ e2
      rw [hb] at hh
      injection hh with hh
      injection hh with _ hh
      exact absurd hh (by decide)
  refine ⟨⟨h.ri.1, fun hn => ?_⟩, fun ad e hn => ?_⟩
  · obtain ⟨ad, e, hc⟩ := h.ri.2 hn
    refine ⟨ad, e, fun j hj => ?_⟩
    have hc1 := hc j hj
    unfold World.cell? at hc1 ⊢
    rw [show (ad.add j).block = ad.block from block_of_add ad j] at hc1 ⊢
    rw [key ad e hn]
    exact hc1
  · obtain ⟨cs, m, hb⟩ := h.ty ad e hn
    exact ⟨cs, m, by rw [key ad e hn]; exact hb⟩
theorem RT.of_OI {w : World} {base : Nat} {A : Option Addr} {n c : Nat} {l : List Int} (h : OI w base (.slice A n c) l) : RT w A n l := by
  refine ⟨h.ri, fun ad e hn => ?_⟩
  rcases h.2 with ⟨he, _⟩ | ⟨g, cap, cur, he, hb, hg, _⟩
  · obtain ⟨rfl, -, -⟩ := slice_inj he; cases e
  · obtain ⟨rfl, -, -⟩ := slice_inj he
    injection e with e
    subst e
    exact ⟨_, _, hg⟩
theorem RT.below {w w' : World} {A : Option Addr} {n : Nat} {l : List Int} (h : RT w A n l) (b : Below w.heap.size w w') : RT w' A n l :=
  ⟨h.ri.below b, fun ad e hn => by
    obtain ⟨cs, m, hb⟩ := h.ty ad e hn
    have hlt : ad.block < w.heap.size := by
      by_cases h1 : ad.block < w.heap.size
      · exact h1
      · rw [Array.getElem?_eq_none (by omega)] at hb; cases hb
    exact ⟨cs, m, (b.block _ hlt).trans hb⟩⟩
theorem VO.below {w w' : World} {g base b : Nat} {v : Value} {ps : List (List Int × Int)} {cells : List Value} (h : VO w g base b v ps cells) (hb : Below w.heap.size w w') : VO w' g base b v ps cells :=
  ⟨h.cel.below hb h.cel.lt, OP.below h.own hb⟩
theorem VO.ne {w : World} {g base b : Nat} {v : Value} {ps : List (List Int × Int)} {cells : List Value} (h : VO w g base b v ps cells) : v.ownBlock ≠ some g := fun e => by
  obtain ⟨cs, m, hh⟩ := OF.typed h.own _ e
  have hc := h.cel
  unfold BK at hc
  rw [hh] at hc
  injection hc with hc
  injection hc with _ hc
  exact absurd hc (by decide)
theorem OP.frozen {w : World} {base b g n c : Nat} {ps : List (List Int × Int)} {cells : List Value} (h : OP w base b (.slice (some ⟨g, 0, none⟩) n c) ps cells) (j : Nat) : w.frozen? ⟨g, j, none⟩ = false := by
  have hn : n = ps.length := by
    obtain ⟨A, c', hv, _⟩ := OF.form h
    injection hv
  subst hn
  exact OF.frozenF h j
/-- The variable is written. -/
theorem VO.put {w : World} {g base b : Nat} {v v' : Value} {ps : List (List Int × Int)} {cells : List Value} (hk : BK w g 32 [v]) (ho : OP w base b v' ps cells) (hne : v'.ownBlock ≠ some g) : VO (w.setCell ⟨g, 0, none⟩ v') g base b v' ps cells := by
  have hg := BK.grown hk 0 v'
  refine ⟨hk.set 0 v', OF.kept ho hg ?_ fun g' e => ?_⟩
  · rcases h : v'.ownBlock with _ | k
    · exact .inl rfl
    · exact .inr (by rw [← h]; exact hne)
  · injection e with e
    subst e
    exact ⟨_, _, _, hk, by decide⟩
/-- A count among the parts is written. -/
theorem partF_set (ps : List (List Int × Int)) (p : Nat) (y : Int) (h : p < ps.length) : (partF ps).set (p * 2 + 1) (.inl y) = partF (ps.take p ++ [((nthP ps p).1, y)] ++ ps.drop (p + 1)) := by
  induction ps generalizing p with
  | nil => simp at h
  | cons q r ih =>
    cases p with
    | zero => simp [partF, nthP]
    | succ p =>
      have := ih p (by simpa using h)
      have e : (p + 1) * 2 + 1 = p * 2 + 1 + 1 + 1 := by omega
      have e2 : nthP (q :: r) (p + 1) = nthP r p := by simp [nthP, List.getD]
      simp only [partF, List.flatMap_cons] at this ⊢
      rw [e, e2]
      simp only [List.cons_append, List.nil_append, List.set_cons_succ, List.take_succ_cons, List.drop_succ_cons, List.flatMap_cons]
      rw [this]
theorem set_len (ps : List (List Int × Int)) (p : Nat) (x : List Int × Int) (h : p < ps.length) : (ps.take p ++ [x] ++ ps.drop (p + 1)).length = ps.length := by simp; omega
theorem OP.setCount {w : World} {base b g n c p : Nat} {ps : List (List Int × Int)} {cells : List Value} (h : OP w base b (.slice (some ⟨g, 0, none⟩) n c) ps cells) (hp : p < ps.length) (y : Int) :
    OP (w.setCell ⟨g, p * 2 + 1, none⟩ (.int .i64 y)) base b (.slice (some ⟨g, 0, none⟩) n c) (ps.take p ++ [((nthP ps p).1, y)] ++ ps.drop (p + 1)) (cells.set (p * 2 + 1) (.int .i64 y)) ∧ w.grownBy (w.setCell ⟨g, p * 2 + 1, none⟩ (.int .i64 y)) (some g) := by
  have hn : n = ps.length := by
    obtain ⟨A, c', hv, _⟩ := OF.form h
    injection hv
  subst hn
  obtain ⟨h1, h2⟩ := OF.setInt h (by decide) (partF_at1 hp) y
  refine ⟨?_, h2⟩
  unfold OP
  rw [set_len ps p _ hp, ← partF_set ps p y hp]
  exact h1
/-- What a call of a gathering closure leaves. -/
def Sees (w : World) (g base b : Nat) (v : Value) (ps : List (List Int × Int)) : Ending → World → Prop := fun e w' =>
  ∃ v' cells', e = .returned (.tuple #[]) ∧ VO w' g base b v' ps cells' ∧ Turn g v w w' ∧ From w v v'
end Go.Proofs.Ytgbojgmmingfdaa

/- The closure of fillings: one shape more. -/
namespace Go.Proofs.Ytgbojgmmingfdaa
open Go.RowKit

theorem fnd_yes {ps : List (List Int × Int)} {s : List Int} {p : Nat} (h : fndB ps s p = true) : p < ps.length ∧ (nthP ps p).1 = s := by simpa [fndB] using h
theorem fnd_no {ps : List (List Int × Int)} {s : List Int} {p : Nat} (h : fndB ps s p = false) : p < ps.length → (nthP ps p).1 ≠ s := by
  intro h1 h2
  have : fndB ps s p = true := by simp [fndB, h1, h2]
  rw [h] at this; cases this
theorem putAt_at {ps : List (List Int × Int)} {p : Nat} (h : p ≤ ps.length) (x : List Int × Int) : nthP (putAt ps p [x]) p = x := by
  unfold nthP putAt List.getD
  rw [List.append_assoc, List.getElem?_append_right (by simp; omega)]
  have : p - (ps.take p).length = 0 := by simp; omega
  rw [this]
  rfl
theorem putAt_again {ps : List (List Int × Int)} {p : Nat} (h : p ≤ ps.length) (x y : List Int × Int) : (putAt ps p [x]).take p ++ [y] ++ (putAt ps p [x]).drop (p + 1) = putAt ps p [y] := by
  unfold putAt
  have hl : (ps.take p).length = p := by simp; omega
  have e1 : (ps.take p ++ [x] ++ ps.drop p).take p = ps.take p := by
    rw [List.append_assoc, List.take_append_of_le_length (by omega), List.take_of_length_le (by omega)]
  have e2 : (ps.take p ++ [x] ++ ps.drop p).drop (p + 1) = ps.drop p := by
    have h2 : (ps.take p ++ [x]).length = p + 1 := by simp; omega
    rw [← h2, List.drop_left]
  rw [e1, e2]

set_option maxRecDepth 100000 in
set_option maxHeartbeats 2000000 in
theorem see_any {w : World} {g base b n : Nat} {A : Option Addr} {s : List Int} {v : Value} {ps : List (List Int × Int)} {cells : List Value} {N : Int} (c : Nat) (hx : RI w A n s) (hc : n ≤ c) (hn : n ≤ 1000000) (ho : VO w g base b v ps cells)
    (hG : Grows ps N) (hN : N ≤ 100000000000) (hl : ∀ k, k < ps.length → (nthP ps k).1.length ≤ 1000000) (hb1 : base ≤ w.heap.size) (hb2 : b ≤ w.heap.size) :
    Calls Try.prog 176 #[.slice A n c, .pointer (some ⟨g, 0, none⟩)] w (Sees w g base b v (addP ps (bare s) 1)) := by
  obtain ⟨A0, n0, c0, rfl, hn0, hc0, hc63⟩ := ho.own.form
  obtain ⟨p, hp⟩ := place_of ps hG.srt (bare s)
  have hple := hp.le
  have hln := hG.len
  rw [hn0] at hple hln
  have HN0 := Lib.hid hn0
  have HL := Lib.hid hx.1
  have hglt := ho.cel.lt
  have HLEN : Hid (∀ k, k < ps.length → (nthP ps k).1.length ≤ 1000000000000) := fun k hk => Nat.le_trans (hl k hk) (by omega)
  clear hn0 hl
  go_enter Try.func176, Try.ntmps176
  go_wp2_with (go_at_call 177; refine (shapeOfRows_any _ hx (by omega) hc).mono ?_; rintro e w' ⟨rfl, q0, rfl⟩)
  have hbl := bareLen_le s n
  refine (clone_any _ ((hx.drewN q0).take hbl) (by omega)).mono ?_
  rintro e w1 ⟨A1, n1, c1, rfl, o1, r1, ⟨cp1, le1⟩, b1⟩
  have hbe : s.take (bareLen s n) = bare s := by unfold bare; rw [HL.out]
  rw [hbe] at o1 r1
  clear hbe
  have g1 : Below w.heap.size w w1 := bnext (Quiet.below ⟨_, rfl⟩) b1 (by simp)
  have ho1 := ho.below g1
  have hcel1 := ho1.cel.cell (j := 0) rfl
  have hs1 := g1.size
  clear b1
  go_wp2_with fail
  have hn1 : n1 ≤ 1000000 := by
    rw [← r1.1]
    unfold bare
    rw [List.length_take, HL.out]
    omega
  refine (bin_fill _ _ ho1.own r1 hp (by omega) (by omega) HLEN.out).mono ?_
  rintro e w2 ⟨rfl, b2⟩
  have g2 := bnext g1 b2 g1.size
  have ho2 := ho1.below b2
  have o2 := o1.below b2
  have hcel2 := ho2.cel.cell (j := 0) rfl
  have hs2 := b2.size
  have t2 : Turn g (.slice A0 n0 c0) w w2 := Turn.of_below g2
  clear ho1 hcel1 o1 r1 b2
  rcases hf : fndB ps (bare s) p with _ | _
  · -- a new shape
    have hfn := fnd_no hf
    have HADD := Lib.hid (addP_new (n := 1) (by omega) hp hfn)
    clear hf hfn
    have hap : ∀ u' ∈ cells, u'.ownBlock = none ∨ u'.ownBlock ≠ Value.ownBlock (.slice A1 n1 c1) := by
      intro u' hu'
      have hin := FRs.in_ ho.own.2.1 u' hu'
      rcases hk : u'.ownBlock with _ | k
      · exact .inl rfl
      · refine .inr fun e => ?_
        have h1 := hin k hk
        have h2 := (o2.lt k e.symm).1
        simp at h2
        omega
    have HAP := Lib.hid hap
    clear hap
    go_wp2_with fail
    refine (insert_any (y := 0) c0 ho2.own (o2.mono (by simpa using hb2)) HAP.out hple (by omega) (by omega)).mono ?_
    rintro e w3 ⟨v3, cells3, rfl, o3, gr3, f3⟩
    obtain ⟨A3, n3, c3, rfl, hn3, hc3, hc363⟩ := o3.form
    have hn3' : n3 = n0 + 1 := by rw [← hn3, putAt_len _ _ _ (by rw [HN0.out]; exact hple), HN0.out]; rfl
    subst hn3'
    obtain ⟨G, cc, hGG, hGb, hGlt⟩ := OF.shape o3 (by rw [hn3]; omega)
    obtain ⟨rfl, e2, e3⟩ := slice_inj hGG
    clear e2 e3 hGG
    have hpl3 : p < (putAt ps p [(bare s, (0 : Int))]).length := by rw [hn3]; omega
    obtain ⟨A4, n4, c4, k1, _, k2, _, k4⟩ := OP.cell o3 hpl3
    rw [putAt_at (by rw [HN0.out]; exact hple)] at k4
    have hfz : w3.frozen? ⟨G, p * 2 + 1, none⟩ = false := OP.frozen o3 _
    have hvne := ho2.ne
    have hk3 : BK w3 g 32 [.slice A0 n0 c0] := (gr3.block g (by simp; omega) (Ne.symm hvne)).trans (ho2.cel.alloc _)
    have hGg : G ≠ g := by
      intro e
      subst e
      rcases f3 with f3 | f3
      · exact hvne (f3.symm.trans rfl)
      · have := f3 G rfl; simp at this; omega
    have hv4 := VO.put hk3 o3 (fun e => hGg (Option.some.inj e))
    have hcg := hk3.cell (j := 0) rfl
    have hfg : w3.frozen? ⟨g, 0, none⟩ = false := hk3.frozen
    have hF : From w (.slice A0 n0 c0) (.slice (some ⟨G, 0, none⟩) (n0 + 1) c3) := f3.imp id fun h k hk => by have := h k hk; simp at this; omega
    have t3 := (t2.trans (From.refl _ _) (Turn.of_below ((Below.refl _ _).alloc (Nat.le_refl _) (.cells #[.slice A1 n1 c1, .int .i64 0] 47)))).trans (From.refl _ _) (Turn.of_grown gr3)
    have t4 := ((t3.store 0 (.slice (some ⟨G, 0, none⟩) (n0 + 1) c3)).row hF rfl (p * 2 + 1) (.int .i64 1))
    obtain ⟨o5, gr5⟩ := OP.setCount hv4.own hpl3 1
    have hfin : Sees w g base b (.slice A0 n0 c0) (addP ps (bare s) 1) (.returned (.tuple #[])) ((w3.setCell ⟨g, 0, none⟩ (.slice (some ⟨G, 0, none⟩) (n0 + 1) c3)).setCell ⟨G, p * 2 + 1, none⟩ (.int .i64 1)) := by
      rw [HADD.out]
      rw [putAt_at (by rw [HN0.out]; exact hple), putAt_again (by rw [HN0.out]; exact hple)] at o5
      exact ⟨_, _, rfl, ⟨hv4.cel.far hGg _ _, o5⟩, t4, hF⟩
    have HF := Lib.hid hfin
    have hpn : p < n0 + 1 := by omega
    have k4' : (w3.setCell ⟨g, 0, none⟩ (.slice (some ⟨G, 0, none⟩) (n0 + 1) c3)).cell? ⟨G, p * 2 + 1, none⟩ = some (.int .i64 0) := cell_low (hk3.grown 0 _) hGg k4
    clear hfin o5 gr5 t4 t3 hF hv4 hvne f3 gr3 t2 g2 g1
    go_wp2
    go_end0
    exact HF.out
  · -- a shape that was there
    obtain ⟨hpl, hpe⟩ := fnd_yes hf
    have hcnt := hG.cnt _ (nthP_mem hpl)
    have HADD := Lib.hid (addP_found (n := 1) (by omega) hp.lo hpl hpe (by omega))
    obtain ⟨G, cc, hGG, hGb, hGlt⟩ := OF.shape ho2.own (by omega)
    obtain ⟨rfl, e2, e3⟩ := slice_inj hGG
    clear e2 e3 hGG hf
    obtain ⟨A4, n4, c4, k1, _, k2, _, k4⟩ := OP.cell ho2.own hpl
    have hfz : w2.frozen? ⟨G, p * 2 + 1, none⟩ = false := OP.frozen ho2.own _
    have hGg : G ≠ g := fun e => ho2.ne (by rw [e]; rfl)
    obtain ⟨x, hx2⟩ : ∃ x, x = (nthP ps p).2 := ⟨_, rfl⟩
    rw [← hx2] at k4 hcnt
    obtain ⟨o5, gr5⟩ := OP.setCount ho2.own hpl (x + 1)
    have t4 := t2.row (From.refl _ _) rfl (p * 2 + 1) (.int .i64 (x + 1))
    have hfin : Sees w g base b (.slice (some ⟨G, 0, none⟩) n0 c0) (addP ps (bare s) 1) (.returned (.tuple #[])) (w2.setCell ⟨G, p * 2 + 1, none⟩ (.int .i64 (x + 1))) := by
      rw [HADD.out, ← hx2]
      rw [hpe] at o5
      exact ⟨_, _, rfl, ⟨ho2.cel.far hGg _ _, o5⟩, t4, From.refl _ _⟩
    have HF := Lib.hid hfin
    have hpn : p < n0 := by rw [← HN0.out]; exact hpl
    clear hfin o5 gr5 t4 t2 g2 g1 hx2 hpe hpl
    go_wp2
    go_end0
    exact HF.out
end Go.Proofs.Ytgbojgmmingfdaa

/- summed of the program: a shape is added some times to an ascending list of parts, in place. -/
namespace Go.Proofs.Ytgbojgmmingfdaa
open Go.RowKit

end Go.Proofs.Ytgbojgmmingfdaa
