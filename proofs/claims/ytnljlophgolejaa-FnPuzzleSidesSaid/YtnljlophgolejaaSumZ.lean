/- summed of the program, counts of any sign; what the cells are. -/
import Derived.Test.YtnljlophgolejaaSee
import Derived.Test.YtnljlophgolejaaPlain
import Derived.Test.YtnljlophgolejaaAlike
namespace Go.Proofs.Ytnljlophgolejaa
open Go.RowKit

/-- What summed leaves, and where its cells lie. -/
def SumQ (w : World) (base b : Nat) (v0 : Value) (ps : List (List Int × Int)) (cells : List Value) : Ending → World → Prop := fun e w' =>
  ∃ v' cells', e = .returned v' ∧ OP w' base b v' ps cells' ∧ w.grownBy w' v0.ownBlock ∧ From w v0 v' ∧ ∀ x ∈ cells', ∀ k, x.ownBlock = some k → (∃ x' ∈ cells, x'.ownBlock = some k) ∨ w.heap.size ≤ k
theorem mem_setV {x : Value} {y : Int} {cells : List Value} {i : Nat} (h : x ∈ cells.set i (.int .i64 y)) : x ∈ cells ∨ x.ownBlock = none := by
  rcases List.mem_or_eq_of_mem_set h with h | h
  · exact .inl h
  · exact .inr (by rw [h]; rfl)
set_option maxRecDepth 100000 in
set_option maxHeartbeats 2000000 in
theorem summedZ_any {w : World} {base b n : Nat} {A : Option Addr} {s : List Int} {v : Value} {ps : List (List Int × Int)} {cells : List Value} (c : Nat) (y : Int) (hx : RI w A n s) (hn : n ≤ 1000000) (ho : OP w base b v ps cells)
    (hS : Srt ps) (hC : ∀ x ∈ ps, -1000000000000000000 ≤ x.2 ∧ x.2 ≤ 1000000000000000000) (hN : ps.length ≤ 100000000000) (hy : -1000000000000000000 ≤ y ∧ y ≤ 1000000000000000000) (hl : ∀ k, k < ps.length → (nthP ps k).1.length ≤ 1000000) (hb1 : base ≤ w.heap.size) (hb2 : b ≤ w.heap.size) :
    Calls Try.prog 66 #[v, .slice A n c, .int .i64 y] w (SumQ w base b v (insZ ps s y) cells) := by
  obtain ⟨A0, n0, c0, rfl, hn0, hc0, hc63⟩ := ho.form
  obtain ⟨p, hp⟩ := place_of ps hS s
  have hple := hp.le
  rw [hn0] at hple hN
  have HN0 := Lib.hid hn0
  have HX := Lib.hid hx
  have HLEN : Hid (∀ k, k < ps.length → (nthP ps k).1.length ≤ 1000000000000) := fun k hk => Nat.le_trans (hl k hk) (by omega)
  have HCC := Lib.hid hC
  obtain ⟨y1, y2⟩ := hy
  clear hn0 hl hC
  rcases hf : fndB ps s p with _ | _
  · -- a new shape
    have hfn := fnd_no hf
    have HF0 := Lib.hid hf
    have HADD := Lib.hid (insZ_new (n := y) hp hfn)
    clear hfn
    go_enter Try.func66, Try.ntmps66
    go_wp2_with fail
    refine (bin_sum _ _ ho hx hp (by omega) (by omega) HLEN.out).mono ?_
    rintro e w2 ⟨rfl, b2⟩
    have ho2 := ho.below b2
    have hx2 := hx.below b2
    have hs2 := b2.size
    go_wp2_with fail
    refine (clone_any _ hx2 (by omega)).mono ?_
    rintro e w3 ⟨A1, n1, c1, rfl, o3, r3, ⟨cp3, le3⟩, b3⟩
    have g3 : Below w.heap.size w w3 := b2.trans (b3.mono hs2)
    have ho3 := ho2.below b3
    have hs3 := g3.size
    have hap : ∀ u' ∈ cells, u'.ownBlock = none ∨ u'.ownBlock ≠ Value.ownBlock (.slice A1 n1 c1) := by
      intro u' hu'
      have hin := FRs.in_ ho2.2.1 u' hu'
      rcases hk : u'.ownBlock with _ | k
      · exact .inl rfl
      · refine .inr fun e => ?_
        have h1 := hin k hk
        have h2 := (o3.lt k e.symm).1
        omega
    have HAP := Lib.hid hap
    clear hap hf
    go_wp2_with fail
    refine (insertQ_any (y := 0) c0 ho3 (o3.mono (by omega)) HAP.out hple (by omega) (by omega)).mono ?_
    rintro e w4 ⟨v4, cells4, rfl, o4, gr4, f4, mc4⟩
    obtain ⟨A4, n4, c4, rfl, hn4, hc4, hc463⟩ := o4.form
    have hn4' : n4 = n0 + 1 := by rw [← hn4, putAt_len _ _ _ (by rw [HN0.out]; exact hple), HN0.out]; rfl
    subst hn4'
    obtain ⟨G, cc, hGG, hGb, hGlt⟩ := OF.shape o4 (by rw [hn4]; omega)
    obtain ⟨rfl, e2, e3⟩ := slice_inj hGG
    clear e2 e3 hGG
    have hpl4 : p < (putAt ps p [(s, (0 : Int))]).length := by rw [hn4]; omega
    obtain ⟨A5, n5, c5, k1, _, k2, _, k4⟩ := OP.cell o4 hpl4
    rw [putAt_at (by rw [HN0.out]; exact hple)] at k4
    have hfz : w4.frozen? ⟨G, p * 2 + 1, none⟩ = false := OP.frozen o4 _
    obtain ⟨o5, gr5⟩ := OP.setCount o4 hpl4 y
    have hF : From w (.slice A0 n0 c0) (.slice (some ⟨G, 0, none⟩) (n0 + 1) c4) := f4.imp id fun h k hk => by have := h k hk; simp at this; omega
    have gAll : w.grownBy (w4.setCell ⟨G, p * 2 + 1, none⟩ (.int .i64 y)) (Value.ownBlock (.slice A0 n0 c0)) := by
      have g4 : w3.heap.size ≤ w4.heap.size := by have := gr4.size; simp at this; omega
      refine ⟨gr5.os.trans (gr4.os.trans g3.os), gr5.tape.trans (gr4.tape.trans g3.tape), gr5.output.trans (gr4.output.trans g3.output), Nat.le_trans (Nat.le_trans hs3 g4) gr5.size, fun k hk hne => ?_⟩
      have h1 : some k ≠ some G := fun e => by
        have e2 := Option.some.inj e
        subst e2
        rcases hF with h2 | h2
        · exact hne h2
        · have := h2 k rfl; omega
      refine (gr5.block k (by omega) h1).trans ((gr4.block k (by simp; omega) hne).trans ((Below.heap_alloc w3 _ k (by omega)).trans (g3.block k hk)))
    have hfin : SumQ w base b (.slice A0 n0 c0) (insZ ps s y) cells (.returned (.slice (some ⟨G, 0, none⟩) (n0 + 1) c4)) (w4.setCell ⟨G, p * 2 + 1, none⟩ (.int .i64 y)) := by
      rw [HADD.out]
      rw [putAt_at (by rw [HN0.out]; exact hple), putAt_again (by rw [HN0.out]; exact hple)] at o5
      refine ⟨_, _, rfl, o5, gAll, hF, fun x hx k hk => ?_⟩
      rcases mem_setV hx with h | h
      · rcases mc4 x h with h | rfl | h
        · exact .inl ⟨x, h, hk⟩
        · exact .inr (by have := (o3.lt k hk).1; omega)
        · rw [h] at hk; cases hk
      · rw [h] at hk; cases hk
    have HF := Lib.hid hfin
    have hpn : p < n0 + 1 := by omega
    clear hfin o5 gr5 hF f4 gr4 g3 gAll
    go_wp2
    go_ret
    exact HF.out
  · -- a shape that was there
    obtain ⟨hpl, hpe⟩ := fnd_yes hf
    have HF0 := Lib.hid hf
    have hcnt := HCC.out _ (nthP_mem hpl)
    have HADD := Lib.hid (insZ_found (n := y) hp.lo hpl hpe)
    go_enter Try.func66, Try.ntmps66
    go_wp2_with fail
    refine (bin_sum _ _ ho hx hp (by omega) (by omega) HLEN.out).mono ?_
    rintro e w2 ⟨rfl, b2⟩
    have ho2 := ho.below b2
    obtain ⟨G, cc, hGG, hGb, hGlt⟩ := OF.shape ho2 (by omega)
    obtain ⟨rfl, e2, e3⟩ := slice_inj hGG
    clear e2 e3 hGG
    obtain ⟨A4, n4, c4, k1, _, k2, _, k4⟩ := OP.cell ho2 hpl
    have hfz : w2.frozen? ⟨G, p * 2 + 1, none⟩ = false := OP.frozen ho2 _
    obtain ⟨x, hx2⟩ : ∃ x, x = (nthP ps p).2 := ⟨_, rfl⟩
    rw [← hx2] at k4 hcnt
    obtain ⟨o5, gr5⟩ := OP.setCount ho2 hpl (x + y)
    have gAll : w.grownBy (w2.setCell ⟨G, p * 2 + 1, none⟩ (.int .i64 (x + y))) (some G) :=
      ⟨gr5.os.trans b2.os, gr5.tape.trans b2.tape, gr5.output.trans b2.output, Nat.le_trans b2.size gr5.size, fun k hk hne => (gr5.block k (Nat.lt_of_lt_of_le hk b2.size) hne).trans (b2.block k hk)⟩
    have hfin : SumQ w base b (.slice (some ⟨G, 0, none⟩) n0 c0) (insZ ps s y) cells (.returned (.slice (some ⟨G, 0, none⟩) n0 c0)) (w2.setCell ⟨G, p * 2 + 1, none⟩ (.int .i64 (x + y))) := by
      rw [HADD.out, ← hx2]
      rw [hpe] at o5
      refine ⟨_, _, rfl, o5, gAll, From.refl _ _, fun x hx k hk => ?_⟩
      rcases mem_setV hx with h | h
      · exact .inl ⟨x, h, hk⟩
      · rw [h] at hk; cases hk
    have HF := Lib.hid hfin
    have hpn : p < n0 := by rw [← HN0.out]; exact hpl
    have hw : IntKind.i64.wrap (x + y) = x + y := by rw [IntKind.wrap_i64]; omega
    clear hfin o5 gr5 hx2 hpe hpl gAll
    go_wp2
    go_ret
    exact HF.out
end Go.Proofs.Ytnljlophgolejaa

/- The closures that gather products of puzzles. -/
namespace Go.Proofs.Ytnljlophgolejaa
open Go.RowKit

/-- A shape is added some times. -/
def proS (n : Nat) (f : PZ → Int) (s : List (List Int × Int)) (p : PZ) : List (List Int × Int) := insZ s (shapeStr (sideB n p.2.2 n)) (f p)
/-- What is gathered so far, and what is still to come. -/
def ProF (M : Int) (s : List (List Int × Int)) (m : Nat) : Prop :=
  ∃ N : Nat, Srt s ∧ s.length ≤ N ∧ (∀ x ∈ s, -((N : Int) * M) ≤ x.2 ∧ x.2 ≤ (N : Int) * M) ∧ (((N + m : Nat) : Int)) * M ≤ 900000000000000000 ∧ N + m ≤ 100000000000 ∧ ∀ x ∈ s, x.1.length ≤ 1000
theorem shapeStr_len (l : List Int) : (shapeStr l).length ≤ 1000 := by
  rcases h : isStrB l with _ | _
  · rw [shapeStr_no h]; simp
  · rw [shapeStr_yes h rfl]
    have h1 := strR_len l l.length
    have h2 := (isStrB_iff.1 h).1.2
    unfold bare
    rw [List.length_take]
    omega
theorem insZ_mem {s : List Int} {n : Int} : ∀ {ps : List (List Int × Int)} {x : List Int × Int}, x ∈ insZ ps s n → (x ∈ ps ∨ (x.1 = s ∧ (x.2 = n ∨ ∃ y ∈ ps, x.2 = y.2 + n)))
  | [], x, h => by
    simp [insZ] at h
    rw [h]
    exact .inr ⟨rfl, .inl rfl⟩
  | y :: r, x, h => by
    rw [insZ] at h
    split at h
    · rcases List.mem_cons.1 h with h | h
      · exact .inl (by rw [h]; simp)
      · rcases insZ_mem h with h | ⟨h1, h2⟩
        · exact .inl (List.mem_cons_of_mem _ h)
        · exact .inr ⟨h1, h2.imp id fun ⟨z, hz, e⟩ => ⟨z, List.mem_cons_of_mem _ hz, e⟩⟩
    · split at h
      · rcases List.mem_cons.1 h with h | h
        · exact .inr ⟨by rw [h], .inr ⟨y, List.mem_cons_self, by rw [h]⟩⟩
        · exact .inl (List.mem_cons_of_mem _ h)
      · rcases List.mem_cons.1 h with h | h
        · exact .inr ⟨by rw [h], .inl (by rw [h])⟩
        · exact .inl h
theorem ProF.next {M : Int} {s : List (List Int × Int)} {m n : Nat} {f : PZ → Int} {p : PZ} (h : ProF M s (m + 1)) (hf : -M ≤ f p ∧ f p ≤ M) : ProF M (proS n f s p) m := by
  obtain ⟨N, h1, h2, h3, h4, h5, h6⟩ := h
  have e1 : ((N + 1 : Nat) : Int) * M = (N : Int) * M + M := by rw [Int.natCast_add, Int.add_mul]; simp
  have hM : 0 ≤ M := by omega
  have hN : 0 ≤ (N : Int) * M := Int.mul_nonneg (by omega) hM
  refine ⟨N + 1, insZ_srt h1, ?_, fun x hx => ?_, by rw [show N + 1 + m = N + (m + 1) by omega]; exact h4, by omega, fun x hx => ?_⟩
  · have := insZ_len (s := shapeStr (sideB n p.2.2 n)) (n := f p) s
    show (insZ _ _ _).length ≤ _
    omega
  · rw [e1]
    rcases insZ_mem hx with h | ⟨-, h | ⟨y, hy, h⟩⟩
    · have := h3 x h; omega
    · omega
    · have := h3 y hy; omega
  · rcases insZ_mem hx with h | ⟨h, -⟩
    · exact h6 x h
    · rw [h]; exact shapeStr_len _
theorem ProF.less {M : Int} {s : List (List Int × Int)} {m m' : Nat} (hM : 0 ≤ M) (h : ProF M s m) (hm : m' ≤ m) : ProF M s m' := by
  obtain ⟨N, h1, h2, h3, h4, h5, h6⟩ := h
  refine ⟨N, h1, h2, h3, ?_, by omega, h6⟩
  have : ((N + m' : Nat) : Int) * M ≤ ((N + m : Nat) : Int) * M := Int.mul_le_mul_of_nonneg_right (by omega) hM
  omega

/-- What the closures' variables hold; X: further variables that are only read. -/
structure ProI (w0 : World) (X : List (Nat × TypeId × Value)) (g : Nat) (w : World) (s : List (List Int × Int)) (O : Nat → Prop) : Prop where
  ex : ∃ (v : Value) (cells : List Value), (∀ k, O k ↔ ((∃ e ∈ X, k = e.1) ∨ k = g ∨ v.ownBlock = some k ∨ ∃ x ∈ cells, x.ownBlock = some k)) ∧ BK w g 33 [v] ∧ OP w w0.heap.size w0.heap.size v s cells
  bx : ∀ e ∈ X, BK w e.1 e.2.1 [e.2.2]
  bel : Below w0.heap.size w0 w
section
variable {w0 w w' : World} {X : List (Nat × TypeId × Value)} {g : Nat} {s : List (List Int × Int)} {O : Nat → Prop}
theorem ProI.ge (h : ProI w0 X g w s O) (hg : w0.heap.size ≤ g) (hX : ∀ e ∈ X, w0.heap.size ≤ e.1) : ∀ k, O k → w0.heap.size ≤ k ∧ k < w.heap.size := by
  obtain ⟨v, cells, h1, h2, h3⟩ := h.ex
  intro k hk
  rcases (h1 k).1 hk with ⟨e, he, rfl⟩ | rfl | hk | ⟨x, hx, hk⟩
  · exact ⟨hX e he, (h.bx e he).lt⟩
  · exact ⟨hg, h2.lt⟩
  · exact OF.lt h3 k hk
  · exact FRs.in_ h3.2.1 x hx k hk
theorem ProI.keep (h : ProI w0 X g w s O) (hk : Kept (fun k => w0.heap.size ≤ k ∧ ¬ O k) w w') : ProI w0 X g w' s O := by
  obtain ⟨v, cells, h1, h2, h3⟩ := h.ex
  have key : ∀ k, O k → k < w.heap.size → w'.heap[k]? = w.heap[k]? := fun k ho hlt => hk.block k hlt fun h4 => h4.2 ho
  refine ⟨⟨v, cells, h1, h2.same (key g ((h1 g).2 (.inr (.inl rfl))) h2.lt), ?_⟩, fun e he => (h.bx e he).same (key _ ((h1 _).2 (.inl ⟨e, he, rfl⟩)) (h.bx e he).lt), h.bel.trans (hk.low (fun k h4 => h4.1) h.bel.size)⟩
  exact OF.same h3 (fun k hk2 => key k ((h1 k).2 (.inr (.inr (.inl hk2)))) (OF.lt h3 k hk2).2) fun x hx k hk2 => key k ((h1 k).2 (.inr (.inr (.inr ⟨x, hx, hk2⟩)))) (FRs.in_ h3.2.1 x hx k hk2).2
end

theorem OP.neB {w : World} {base b g : Nat} {T : TypeId} {cs : List Value} {v : Value} {ps : List (List Int × Int)} {cells : List Value} (h : OP w base b v ps cells) (hk : BK w g T cs) (hT : T ≠ 62) : v.ownBlock ≠ some g := fun e => by
  obtain ⟨cs, m, hh⟩ := OF.typed h _ e
  unfold BK at hk
  rw [hh] at hk
  injection hk with hk
  injection hk with _ hk
  exact hT hk.symm
/-- What was summed is stored. -/
theorem ProI.fin {w0 w w4 w5 : World} {X : List (Nat × TypeId × Value)} {g B : Nat} {s ps : List (List Int × Int)} {O : Nat → Prop} {v : Value} {cells : List Value} {e : Ending}
    (hX : ∀ e ∈ X, e.1 ≠ g ∧ e.2.1 ≠ 62) (hO : ∀ k, O k ↔ ((∃ e ∈ X, k = e.1) ∨ k = g ∨ v.ownBlock = some k ∨ ∃ x ∈ cells, x.ownBlock = some k))
    (hg : w0.heap.size ≤ g ∧ BK w g 33 [v]) (hx : ∀ e ∈ X, BK w e.1 e.2.1 [e.2.2]) (hbel : Below w0.heap.size w0 w) (hB : B ≤ w.heap.size)
    (b : Below w.heap.size w w4) (hop : OP w4 w0.heap.size w0.heap.size v s cells) (hq : SumQ w4 w0.heap.size w0.heap.size v ps cells e w5) :
    ∃ v', (e = .returned v' ∧ ∃ A n c, v' = .slice A n c) ∧ BK w5 g 33 [v] ∧ ∃ O' : Nat → Prop, ProI w0 X g (w5.setCell ⟨g, 0, none⟩ v') ps O' ∧ (∀ k, O' k → O k ∨ B ≤ k) ∧ Kept O w (w5.setCell ⟨g, 0, none⟩ v') := by
  obtain ⟨v', cells', rfl, o5, gr, fr, mem⟩ := hq
  obtain ⟨hg1, hg2⟩ := hg
  have g4 := hg2.below b hg2.lt
  have hs4 := b.size
  have hs5 := gr.size
  have low : ∀ k, k < w.heap.size → v.ownBlock ≠ some k → w5.heap[k]? = w.heap[k]? := fun k hk hne => (gr.block k (by omega) fun e => hne e.symm).trans (b.block k hk)
  have ne4 := hop.neB g4 (by decide)
  have g5 : BK w5 g 33 [v] := hg2.same (low g hg2.lt ne4)
  have ne5 := o5.neB g5 (by decide)
  have hform : ∃ A n c, v' = .slice A n c := by obtain ⟨A, n, c, h, -⟩ := o5.form; exact ⟨A, n, c, h⟩
  refine ⟨v', ⟨rfl, hform⟩, g5, fun k => (∃ e ∈ X, k = e.1) ∨ k = g ∨ v'.ownBlock = some k ∨ ∃ x ∈ cells', x.ownBlock = some k, ⟨⟨v', cells', fun k => Iff.rfl, g5.set 0 v', (VO.put g5 o5 ne5).own⟩, fun e he => ?_, ?_⟩, fun k hk => ?_, ?_⟩
  · have h1 := hx e he
    have h4 := h1.below b h1.lt
    exact (h1.same (low _ h1.lt (hop.neB h4 (hX e he).2))).far (Ne.symm (hX e he).1) 0 v'
  · refine (Below.setCell (B := w0.heap.size) ?_ (by simpa using hg1) v')
    refine hbel.trans ⟨gr.os.trans b.os, gr.tape.trans b.tape, gr.output.trans b.output, by omega, fun k hk => low k (by have := hbel.size; omega) fun e => ?_⟩
    have := (OF.lt hop k e).1
    omega
  · rcases hk with hk | rfl | hk | ⟨x, hx2, hk⟩
    · exact .inl ((hO k).2 (.inl hk))
    · exact .inl ((hO k).2 (.inr (.inl rfl)))
    · rcases fr with h | h
      · exact .inl ((hO k).2 (.inr (.inr (.inl (by rw [← h]; exact hk)))))
      · exact .inr (by have := h k hk; omega)
    · rcases mem x hx2 k hk with ⟨x', hx', h⟩ | h
      · exact .inl ((hO k).2 (.inr (.inr (.inr ⟨x', hx', h⟩))))
      · exact .inr (by omega)
  · have kk : Kept O w w5 := ⟨gr.os.trans b.os, gr.tape.trans b.tape, gr.output.trans b.output, by omega, fun k hk hn => low k hk fun e => hn ((hO k).2 (.inr (.inr (.inl e))))⟩
    exact kk.store (.inl ((hO g).2 (.inr (.inl rfl)))) 0 v'
end Go.Proofs.Ytnljlophgolejaa
