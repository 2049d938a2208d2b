/- Slices of puzzles: append, reading. -/
import Derived.Test.YtnljlophgolejaaWords
import Derived.Test.YtnljlophgolejaaTileP
import Derived.Test.YtnljlophgolejaaAlike
namespace Go.Proofs.Ytnljlophgolejaa
open Go.RowKit

def nthZ (ps : List PZ) (k : Nat) : PZ := ps.getD k ([], [], [])
theorem nthZ_lt {ps : List PZ} {k : Nat} (h : k < ps.length) : nthZ ps k = ps[k] := by simp [nthZ, List.getD, h]
theorem nthZ_mem {ps : List PZ} {k : Nat} (h : k < ps.length) : nthZ ps k ∈ ps := by rw [nthZ_lt h]; exact List.getElem_mem h
/-- The fields of puzzles of one size. -/
def zF (n : Int) (ps : List PZ) : List (Int ⊕ List Int) := ps.flatMap fun p => [.inl n, .inr p.1, .inr p.2.1, .inr p.2.2]
theorem zF_len (n : Int) (ps : List PZ) : (zF n ps).length = ps.length * 4 := by
  induction ps with
  | nil => rfl
  | cons p r ih => simp only [zF, List.flatMap_cons, List.length_append] at ih ⊢; simp [ih]; omega
theorem zF_at {n : Int} {ps : List PZ} {k : Nat} (h : k < ps.length) : (zF n ps)[k * 4]? = some (.inl n) ∧ (zF n ps)[k * 4 + 1]? = some (.inr (nthZ ps k).1) ∧ (zF n ps)[k * 4 + 2]? = some (.inr (nthZ ps k).2.1) ∧ (zF n ps)[k * 4 + 3]? = some (.inr (nthZ ps k).2.2) := by
  induction ps generalizing k with
  | nil => simp at h
  | cons p r ih =>
    cases k with
    | zero => exact ⟨rfl, rfl, rfl, rfl⟩
    | succ k =>
      obtain ⟨h0, h1, h2, h3⟩ := ih (k := k) (by simpa using h)
      have e : (k + 1) * 4 = k * 4 + 1 + 1 + 1 + 1 := by omega
      have e1 : (k + 1) * 4 + 1 = k * 4 + 1 + 1 + 1 + 1 + 1 := by omega
      have e2 : (k + 1) * 4 + 2 = k * 4 + 2 + 1 + 1 + 1 + 1 := by omega
      have e3 : (k + 1) * 4 + 3 = k * 4 + 3 + 1 + 1 + 1 + 1 := by omega
      have en : nthZ (p :: r) (k + 1) = nthZ r k := rfl
      rw [e1, e2, e3, e, en]
      refine ⟨by simpa [zF] using h0, by simpa [zF] using h1, by simpa [zF] using h2, by simpa [zF] using h3⟩
theorem zF_append (n : Int) (a b : List PZ) : zF n (a ++ b) = zF n a ++ zF n b := by simp [zF]
theorem Try.infoPz : (Try.prog.info? 53).map (fun i => (i.zero, i.size, i.bytes)) = some (some (.agg #[.int .i64 0, .slice none 0 0, .slice none 0 0, .slice none 0 0]), 4, 80) := by kernel_rfl
/-- The value is a slice of puzzles that the call owns. -/
def OZ (w : World) (base b : Nat) (v : Value) (n : Int) (ps : List PZ) (cells : List Value) : Prop := OF w base b 53 4 v ps.length (zF n ps) cells
theorem OZ.below {w w' : World} {base b : Nat} {v : Value} {n : Int} {ps : List PZ} {cells : List Value} (h : OZ w base b v n ps cells) (hb : Below w.heap.size w w') : OZ w' base b v n ps cells := OF.below h hb
theorem FRs.four {w : World} {b : Nat} {n : Int} {u1 u2 u3 : Value} {x y z : List Int} (h1 : OI w b u1 x) (h2 : OI w b u2 y) (h3 : OI w b u3 z) : FRs w b [.inl n, .inr x, .inr y, .inr z] [.int .i64 n, u1, u2, u3] :=
  FRs.append (fs := [.inl n]) (fs2 := [.inr x, .inr y, .inr z]) (cells := [.int .i64 n]) (news := [u1, u2, u3]) (FRs.one_ (x := .inl n) rfl)
    (FRs.append (fs := [.inr x]) (fs2 := [.inr y, .inr z]) (cells := [u1]) (news := [u2, u3]) (FRs.one_ (x := .inr x) h1)
      (FRs.append (fs := [.inr y]) (fs2 := [.inr z]) (cells := [u2]) (news := [u3]) (FRs.one_ (x := .inr y) h2) (FRs.one_ (x := .inr z) h3)))
theorem Dist.four (n : Int) {u1 u2 u3 : Value} (h12 : u1.ownBlock = none ∨ u1.ownBlock ≠ u2.ownBlock) (h13 : u1.ownBlock = none ∨ u1.ownBlock ≠ u3.ownBlock) (h23 : u2.ownBlock = none ∨ u2.ownBlock ≠ u3.ownBlock) : Dist [.int .i64 n, u1, u2, u3] :=
  Dist.append (cells := [.int .i64 n]) (news := [u1, u2, u3]) (Dist.one _)
    (Dist.append (cells := [u1]) (news := [u2, u3]) (Dist.one _) (Dist.append (cells := [u2]) (news := [u3]) (Dist.one _) (Dist.one _) fun a ha a' ha' => by simp at ha ha'; subst ha ha'; exact h23)
      fun a ha a' ha' => by
        simp at ha ha'
        subst ha
        rcases ha' with rfl | rfl
        · exact h12
        · exact h13)
    fun a ha _ _ => .inl (by simp at ha; subst ha; rfl)

/-- 'append(out, p)', p in a new block. -/
theorem run_appZ {w0 : World} {base b : Nat} {v u1 u2 u3 : Value} {n : Int} {ps : List PZ} {cells : List Value} {x y z : List Int} (ty : TypeId) (hown : OZ w0 base b v n ps cells) (h1 : OI w0 b u1 x) (h2 : OI w0 b u2 y) (h3 : OI w0 b u3 z)
    (d12 : u1.ownBlock = none ∨ u1.ownBlock ≠ u2.ownBlock) (d13 : u1.ownBlock = none ∨ u1.ownBlock ≠ u3.ownBlock) (d23 : u2.ownBlock = none ∨ u2.ownBlock ≠ u3.ownBlock)
    (hap : ∀ u' ∈ cells, ∀ u, u = u1 ∨ u = u2 ∨ u = u3 → u'.ownBlock = none ∨ u'.ownBlock ≠ u.ownBlock) (hlen : ps.length + 1 ≤ 1000000000000) (hbase : base ≤ w0.heap.size) :
    ∃ v' w', (Builtin.append_ #[27, 27] ty #[v, .slice (some ⟨w0.heap.size, 0, none⟩) 1 1]).run Try.prog (w0.alloc (.cells #[.int .i64 n, u1, u2, u3] 53)) = .ok v' w' ∧
      OZ w' base b v' n (ps ++ [(x, y, z)]) (cells ++ [.int .i64 n, u1, u2, u3]) ∧ (w0.alloc (.cells #[.int .i64 n, u1, u2, u3] 53)).grownBy w' v.ownBlock ∧ (v'.ownBlock = v.ownBlock ∨ v'.ownBlock = some (w0.heap.size + 1)) := by
  obtain ⟨v', w', hr, q2, q3, q5⟩ := run_appF (P := Try.prog) (w := w0.alloc (.cells #[.int .i64 n, u1, u2, u3] 53)) (base := base) (b := b) (t := 27) (e := 53) (size := 4) (bytes := 80) (z := .agg #[.int .i64 0, .slice none 0 0, .slice none 0 0, .slice none 0 0]) (v := v)
    (n := ps.length) (fs := zF n ps) (fs2 := [.inl n, .inr x, .inr y, .inr z]) (cells := cells) (news := [.int .i64 n, u1, u2, u3]) ty Try.underlying27 Try.infoPz rfl (by omega) (by omega) (by decide) (OF.alloc hown _) ⟨w0.heap.size, 0, none⟩ 1 rfl
    (new_cells w0 [.int .i64 n, u1, u2, u3] _) (FRs.four (OI.alloc h1 _) (OI.alloc h2 _) (OI.alloc h3 _)) (Dist.four n d12 d13 d23) (fun a ha a' ha' => by
      simp at ha'
      rcases ha' with rfl | rfl | rfl | rfl
      · rcases h : a.ownBlock with _ | k
        · exact .inl rfl
        · exact .inr (by simp [Value.ownBlock])
      · exact hap a ha _ (.inl rfl)
      · exact hap a ha _ (.inr (.inl rfl))
      · exact hap a ha _ (.inr (.inr rfl))) hlen (by simp; omega)
  refine ⟨v', w', hr, ?_, q3, by simpa using q5⟩
  unfold OZ
  rw [zF_append, List.length_append]
  exact q2

theorem wpAppZ {w0 : World} {ops : Array Oper} {rest : List Oper} {o : Oper} {a : Act} {Q : Exit → Act → World → Prop} (hgd : o.guard = none) (s x' : Operand)
    (ho : o.op = .call { callee := .builtin .append, args := #[s, x'], argTypes := #[27, 27] })
    (base b : Nat) (v u1 u2 u3 : Value) (n : Int) (ps : List PZ) (cells : List Value) (x y z : List Int) (hs : a.eval s = v) (hx : a.eval x' = .slice (some ⟨w0.heap.size, 0, none⟩) 1 1)
    (hown : OZ w0 base b v n ps cells) (h1 : OI w0 b u1 x) (h2 : OI w0 b u2 y) (h3 : OI w0 b u3 z)
    (d12 : u1.ownBlock = none ∨ u1.ownBlock ≠ u2.ownBlock) (d13 : u1.ownBlock = none ∨ u1.ownBlock ≠ u3.ownBlock) (d23 : u2.ownBlock = none ∨ u2.ownBlock ≠ u3.ownBlock)
    (hap : ∀ u' ∈ cells, ∀ u, u = u1 ∨ u = u2 ∨ u = u3 → u'.ownBlock = none ∨ u'.ownBlock ≠ u.ownBlock) (hlen : ps.length + 1 ≤ 1000000000000) (hbase : base ≤ w0.heap.size)
    (h : ∀ v' w', OZ w' base b v' n (ps ++ [(x, y, z)]) (cells ++ [.int .i64 n, u1, u2, u3]) → (w0.alloc (.cells #[.int .i64 n, u1, u2, u3] 53)).grownBy w' v.ownBlock → (v'.ownBlock = v.ownBlock ∨ v'.ownBlock = some (w0.heap.size + 1)) → wpList Try.prog ops Q rest (a.put o.dst v') w') :
    wpList Try.prog ops Q (o :: rest) a (w0.alloc (.cells #[.int .i64 n, u1, u2, u3] 53)) := by
  refine wpList_plain hgd fun K hK => ?_
  obtain ⟨v', w', hr, q2, q3, q5⟩ := run_appZ (n := n) o.type hown h1 h2 h3 d12 d13 d23 hap hlen hbase
  unfold Oper.wp execOp
  simp only [ho, resolve, invoke, builtin, Sem.run_bind, Sem.run_pure, Result.andThen_ok, List.map_toArray, List.map_cons, List.map_nil, hs, hx, hr]
  exact hK _ _ (h v' w' q2 q3 q5)

theorem OZ.cell {w : World} {base b g N c k : Nat} {n : Int} {ps : List PZ} {cells : List Value} (h : OZ w base b (.slice (some ⟨g, 0, none⟩) N c) n ps cells) (hk : k < ps.length) :
    ∃ u1 u2 u3, w.cell? ⟨g, k * 4, none⟩ = some (.int .i64 n) ∧ w.cell? ⟨g, k * 4 + 1, none⟩ = some u1 ∧ w.cell? ⟨g, k * 4 + 2, none⟩ = some u2 ∧ w.cell? ⟨g, k * 4 + 3, none⟩ = some u3 ∧
      OI w b u1 (nthZ ps k).1 ∧ OI w b u2 (nthZ ps k).2.1 ∧ OI w b u3 (nthZ ps k).2.2 := by
  have hn : N = ps.length := by
    obtain ⟨A, c', hv, _⟩ := OF.form h
    injection hv
  subst hn
  obtain ⟨z0, z1, z2, z3⟩ := zF_at (n := n) hk
  obtain ⟨u0, hu0, hf0⟩ := h.2.1.at_ z0
  obtain ⟨u1, hu1, hf1⟩ := h.2.1.at_ z1
  obtain ⟨u2, hu2, hf2⟩ := h.2.1.at_ z2
  obtain ⟨u3, hu3, hf3⟩ := h.2.1.at_ z3
  have hf0' : u0 = .int .i64 n := hf0
  subst hf0'
  exact ⟨u1, u2, u3, by rw [OF.cellF h (by omega), hu0], by rw [OF.cellF h (by omega), hu1], by rw [OF.cellF h (by omega), hu2], by rw [OF.cellF h (by omega), hu3], hf1, hf2, hf3⟩
theorem OZ.form {w : World} {base b : Nat} {v : Value} {n : Int} {ps : List PZ} {cells : List Value} (h : OZ w base b v n ps cells) : ∃ A N c, v = .slice A N c ∧ ps.length = N ∧ N ≤ c ∧ c ≤ 9223372036854775807 := by
  obtain ⟨A, c, hv, h1, h2, _⟩ := OF.form h
  exact ⟨A, ps.length, c, hv, rfl, h1, h2⟩
theorem OZ.lit (w : World) (base b : Nat) (n : Int) (hb : base ≤ w.heap.size) : OZ (w.alloc (.cells #[] 53)) base b (.slice (some ⟨w.heap.size, 0, none⟩) 0 0) n [] [] := by
  have := World.ownsRow_lit (e := 53) (size := 4) (base := base) w #[] 0 hb (by simp only [maxLen]; omega) (by simp)
  exact ⟨by simpa using this, FRs.nil_, Dist.nil_⟩
/-- What a function leaves that returns a new slice of puzzles. -/
def MakesZ (w : World) (base b : Nat) (n : Int) (ps : List PZ) : Ending → World → Prop := fun e w' =>
  ∃ A N c cells, e = .returned (.slice A N c) ∧ OZ w' base b (.slice A N c) n ps cells ∧ ps.length = N ∧ Below base w w'
end Go.Proofs.Ytnljlophgolejaa

/- The closure of puzzlesOf. -/
namespace Go.Proofs.Ytnljlophgolejaa
open Go.RowKit

/-- What the closure's variable holds. -/
structure PzI (w0 : World) (g : Nat) (n : Int) (w : World) (s : List PZ) (O : Nat → Prop) : Prop where
  ex : ∃ (v : Value) (cells : List Value), (∀ k, O k ↔ (k = g ∨ v.ownBlock = some k ∨ ∃ x ∈ cells, x.ownBlock = some k)) ∧ BK w g 27 [v] ∧ OZ w w0.heap.size w0.heap.size v n s cells
  bel : Below w0.heap.size w0 w
section
variable {w0 w w' : World} {g : Nat} {n : Int} {s : List PZ} {O : Nat → Prop}
theorem PzI.ge (h : PzI w0 g n w s O) (hg : w0.heap.size ≤ g) : ∀ k, O k → w0.heap.size ≤ k ∧ k < w.heap.size := by
  obtain ⟨v, cells, h1, h2, h3⟩ := h.ex
  intro k hk
  rcases (h1 k).1 hk with rfl | hk | ⟨x, hx, hk⟩
  · exact ⟨hg, h2.lt⟩
  · exact OF.lt h3 k hk
  · exact FRs.in_ h3.2.1 x hx k hk
theorem PzI.keep (h : PzI w0 g n w s O) (hk : Kept (fun k => w0.heap.size ≤ k ∧ ¬ O k) w w') : PzI w0 g n w' s O := by
  obtain ⟨v, cells, h1, h2, h3⟩ := h.ex
  have key : ∀ k, O k → k < w.heap.size → w'.heap[k]? = w.heap[k]? := fun k ho hlt => hk.block k hlt fun h4 => h4.2 ho
  refine ⟨⟨v, cells, h1, h2.same (key g ((h1 g).2 (.inl rfl)) h2.lt), ?_⟩, h.bel.trans (hk.low (fun k h4 => h4.1) h.bel.size)⟩
  exact OF.same h3 (fun k hk2 => key k ((h1 k).2 (.inr (.inl hk2))) (OF.lt h3 k hk2).2) fun x hx k hk2 => key k ((h1 k).2 (.inr (.inr ⟨x, hx, hk2⟩))) (FRs.in_ h3.2.1 x hx k hk2).2
end
theorem OZ.neB {w : World} {base b g : Nat} {T : TypeId} {cs : List Value} {v : Value} {n : Int} {ps : List PZ} {cells : List Value} (h : OZ w base b v n ps cells) (hk : BK w g T cs) (hT : T ≠ 53) : v.ownBlock ≠ some g := fun e => by
  obtain ⟨cs, m, hh⟩ := OF.typed h _ e
  unfold BK at hk
  rw [hh] at hk
  injection hk with hk
  injection hk with _ hk
  exact hT hk.symm
theorem OZ.put {w : World} {g base b : Nat} {v v' : Value} {n : Int} {ps : List PZ} {cells : List Value} (hk : BK w g 27 [v]) (ho : OZ w base b v' n ps cells) (hne : v'.ownBlock ≠ some g) : BK (w.setCell ⟨g, 0, none⟩ v') g 27 [v'] ∧ OZ (w.setCell ⟨g, 0, none⟩ v') base b v' n ps cells := by
  have hg := BK.grown hk 0 v'
  refine ⟨hk.set 0 v', OF.kept ho hg ?_ fun g' e => ?_⟩
  · rcases h : v'.ownBlock with _ | k
    · exact .inl rfl
    · exact .inr (by rw [← h]; exact hne)
  · injection e with e
    subst e
    exact ⟨_, _, _, hk, by decide⟩
/-- What was appended is stored. -/
theorem PzI.fin {w0 w wa w5 : World} {g B : Nat} {n : Int} {s s' : List PZ} {O : Nat → Prop} {v v' u1 u2 u3 : Value} {cells : List Value}
    (hg : w0.heap.size ≤ g) (hO : ∀ k, O k ↔ (k = g ∨ v.ownBlock = some k ∨ ∃ x ∈ cells, x.ownBlock = some k)) (hbg : BK w g 27 [v]) (hoz : OZ w w0.heap.size w0.heap.size v n s cells) (hbel : Below w0.heap.size w0 w) (hB : B ≤ w.heap.size)
    (ba : Below w.heap.size w wa) (h1 : OZ w5 w0.heap.size w0.heap.size v' n s' (cells ++ [.int .i64 n, u1, u2, u3])) (h2 : wa.grownBy w5 v.ownBlock) (h3 : v'.ownBlock = v.ownBlock ∨ ∃ k, v'.ownBlock = some k ∧ w.heap.size ≤ k)
    (l1 : ∀ k, u1.ownBlock = some k → B ≤ k) (l2 : ∀ k, u2.ownBlock = some k → B ≤ k) (l3 : ∀ k, u3.ownBlock = some k → B ≤ k) :
    BK w5 g 27 [v] ∧ ∃ O' : Nat → Prop, PzI w0 g n (w5.setCell ⟨g, 0, none⟩ v') s' O' ∧ (∀ k, O' k → O k ∨ B ≤ k) ∧ Kept O w (w5.setCell ⟨g, 0, none⟩ v') := by
  have ne := hoz.neB hbg (by decide)
  have hsa := ba.size
  have hs5 := h2.size
  have low : ∀ k, k < w.heap.size → v.ownBlock ≠ some k → w5.heap[k]? = w.heap[k]? := fun k hk hne => (h2.block k (by omega) fun e => hne e.symm).trans (ba.block k hk)
  have g5 : BK w5 g 27 [v] := hbg.same (low g hbg.lt ne)
  have ne5 := h1.neB g5 (by decide)
  obtain ⟨p1, p2⟩ := OZ.put g5 h1 ne5
  refine ⟨g5, fun k => k = g ∨ v'.ownBlock = some k ∨ ∃ x ∈ cells ++ [.int .i64 n, u1, u2, u3], x.ownBlock = some k, ⟨⟨v', _, fun k => Iff.rfl, p1, p2⟩, ?_⟩, fun k hk => ?_, ?_⟩
  · refine (Below.setCell (B := w0.heap.size) ?_ (by simpa using hg) v')
    refine hbel.trans ⟨h2.os.trans ba.os, h2.tape.trans ba.tape, h2.output.trans ba.output, by omega, fun k hk => low k (by have := hbel.size; omega) fun e => ?_⟩
    have := (OF.lt hoz k e).1
    omega
  · rcases hk with rfl | hk | ⟨x, hx, hk⟩
    · exact .inl ((hO k).2 (.inl rfl))
    · rcases h3 with h | ⟨k', h, h'⟩
      · exact .inl ((hO k).2 (.inr (.inl (by rw [← h]; exact hk))))
      · rw [h] at hk; injection hk with hk; exact .inr (by omega)
    · rw [List.mem_append] at hx
      rcases hx with hx | hx
      · exact .inl ((hO k).2 (.inr (.inr ⟨x, hx, hk⟩)))
      · simp only [List.mem_cons, List.not_mem_nil, or_false] at hx
        rcases hx with rfl | rfl | rfl | rfl
        · cases hk
        · exact .inr (l1 k hk)
        · exact .inr (l2 k hk)
        · exact .inr (l3 k hk)
  · have kk : Kept O w w5 := ⟨h2.os.trans ba.os, h2.tape.trans ba.tape, h2.output.trans ba.output, by omega, fun k hk hn => low k hk fun e => hn ((hO k).2 (.inr (.inl e)))⟩
    exact kk.store (.inl ((hO g).2 (.inl rfl))) 0 v'
/-- One puzzle more, as long as there are not too many. -/
def pzS (s : List PZ) (p : PZ) : List PZ := s ++ [p]
def pzG (s : List PZ) (_ : PZ) : Bool := decide (((s.length + 1 : Nat) : Int) ≤ 600)

set_option maxRecDepth 100000 in
set_option maxHeartbeats 1000000 in
theorem seeZ_any {w0 w : World} {g n : Nat} {s : List PZ} {O : Nat → Prop} {p : PZ} {B : Nat} {A1 A2 A3 : Option Addr} {n1 n2 n3 c1 c2 c3 : Nat}
    (hg : w0.heap.size ≤ g) (hi : PzI w0 g (n : Int) w s O) (hs : s.length + 1 ≤ 1000000000) (hB0 : w0.heap.size ≤ B) (hB : B ≤ w.heap.size) (hOB : ∀ k, O k → k < B)
    (ht : Three w B (.slice A1 n1 c1) (.slice A2 n2 c2) (.slice A3 n3 c3) p.1 p.2.1 p.2.2) :
    Calls Try.prog 97 #[.agg #[.int .i64 (n : Int), .slice A1 n1 c1, .slice A2 n2 c2, .slice A3 n3 c3], .pointer (some ⟨g, 0, none⟩)] w
      (fun e w' => e = .returned (.bool (pzG s p)) ∧ ∃ O' : Nat → Prop, PzI w0 g (n : Int) w' (pzS s p) O' ∧ (∀ k, O' k → O k ∨ B ≤ k) ∧ Kept O w w') := by
  obtain ⟨v, cells, hO, hbg, hoz⟩ := hi.ex
  have hbel := hi.bel
  obtain ⟨A0, n0, c0, rfl, hn0, hc0, hc63⟩ := hoz.form
  have hsz := hbel.size
  have hgl := hbg.lt
  have bb : Below w.heap.size w (w.alloc (Obj.cells #[.int .i64 (n : Int), .slice A1 n1 c1, .slice A2 n2 c2, .slice A3 n3 c3] 53)) := (Below.refl _ _).alloc (Nat.le_refl _) _
  have hgb := hbg.below bb hgl
  have f0 := hbg.cell (j := 0) rfl
  have HAP : Hid (∀ u' ∈ cells, ∀ u : Value, u = .slice A1 n1 c1 ∨ u = .slice A2 n2 c2 ∨ u = .slice A3 n3 c3 → u'.ownBlock = none ∨ u'.ownBlock ≠ u.ownBlock) := fun u' hu' u hu => by
    rcases hk : u'.ownBlock with _ | k
    · exact .inl rfl
    · refine .inr fun e => ?_
      have h1 := hOB k ((hO k).2 (.inr (.inr ⟨u', hu', hk⟩)))
      rcases hu with rfl | rfl | rfl
      · have := (ht.1.lt k e.symm).1; omega
      · have := (ht.2.1.lt k e.symm).1; omega
      · have := (ht.2.2.1.lt k e.symm).1; omega
  have HOZ := Lib.hid (OZ.below hoz bb)
  have T1 := Lib.hid (ht.1.below bb |>.mono hB0)
  have T2 := Lib.hid (ht.2.1.below bb |>.mono hB0)
  have T3 := Lib.hid (ht.2.2.1.below bb |>.mono hB0)
  have D := Lib.hid ht.2.2.2
  have L1 := Lib.hid ht.1.lt
  have L2 := Lib.hid ht.2.1.lt
  have L3 := Lib.hid ht.2.2.1.lt
  have HBA : Hid (Below w.heap.size w ((w.alloc (Obj.cells #[.int .i64 (n : Int), .slice A1 n1 c1, .slice A2 n2 c2, .slice A3 n3 c3] 53)).alloc (Obj.cells #[.int .i64 (n : Int), .slice A1 n1 c1, .slice A2 n2 c2, .slice A3 n3 c3] 53))) := bb.alloc bb.size _
  have HO := Lib.hid hO
  have HBG := Lib.hid hbg
  have HOZ0 := Lib.hid hoz
  have HBEL := Lib.hid hbel
  have HBB := Lib.hid bb
  have HGB := Lib.hid hgb
  have HN0 := Lib.hid hn0
  have HB0 := Lib.hid hB0
  have HBW := Lib.hid hB
  clear hi ht hO hbg hoz hbel bb hgb hn0 hB0 hB hOB
  go_enter Try.func97, Try.ntmps97
  go_wp2_with (at_builtin; refine wpAppZ rfl _ _ rfl w0.heap.size w0.heap.size (.slice A0 n0 c0) (.slice A1 n1 c1) (.slice A2 n2 c2) (.slice A3 n3 c3) (n : Int) s cells p.1 p.2.1 p.2.2 rfl (by show Value.slice (some ⟨w.heap.size + 1, 0, none⟩) 1 1 = _; simp) HOZ.out T1.out T2.out T3.out D.out.1 D.out.2.1 D.out.2.2 HAP.out (by omega) (by simp; omega) ?_; intro v' w' h1 h2 h3; obtain ⟨A8, n8, c8, rfl, hn8, -, -⟩ := h1.form; have hfin := PzI.fin hg HO.out HBG.out HOZ0.out HBEL.out HBW.out (HBA.out) h1 h2 (h3.imp id fun h => ⟨_, h, by simp; omega⟩) (fun k h => (L1.out k h).1) (fun k h => (L2.out k h).1) (fun k h => (L3.out k h).1); have hg5 := hfin.1; have f8 := hg5.cell (j := 0) rfl; have z8 := hg5.frozen (j := 0); have HF := Lib.hid hfin.2; obtain rfl : n0 + 1 = n8 := by rw [← hn8, List.length_append, HN0.out]; rfl)
  have HG : Hid (pzG s p = decide ((n0 : Int) + 1 ≤ 600)) := decide_eq_decide.2 (by have := HN0.out; omega)
  go_ret
  refine ⟨?_, HF.out⟩
  rw [HG.out]; rfl

theorem pzC {w0 : World} {g n : Nat} (hg : w0.heap.size ≤ g) :
    Clos Try.prog 97 #[.pointer (some ⟨g, 0, none⟩)] w0.heap.size n (List PZ) (PzI w0 g (n : Int)) pzS pzG (fun s m => s.length + m ≤ 1000000000) (okP n) where
  ent := ent_of Try.func97 (by kernel_rfl) rfl
  ge hi k hk := hi.ge hg k hk
  keep hi hk := hi.keep hk
  next h _ := by simp only [pzS, List.length_append, List.length_cons, List.length_nil]; omega
  less h hm := by omega
  call hi hf hp hB0 hB hOB ht := seeZ_any hg hi (by omega) hB0 hB hOB ht
end Go.Proofs.Ytnljlophgolejaa
