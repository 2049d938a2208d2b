/- Shapes with powers, some times: slices of them: append, comparisons, marks. -/
import Derived.Test.YtbemglmnnehllaaWords
namespace Go.Proofs.Ytbemglmnnehllaa
open Go.RowKit

/-- The fields of shapes with powers. -/
def qF (ps : List QT) : List (Int ⊕ List Int) := ps.flatMap fun p => [.inl p.1, .inr p.2.1, .inl p.2.2]
theorem qF_len (ps : List QT) : (qF ps).length = ps.length * 3 := by
  induction ps with
  | nil => rfl
  | cons p r ih => simp only [qF, List.flatMap_cons, List.length_append] at ih ⊢; simp [ih]; omega
theorem qF_at0 {ps : List QT} {k : Nat} (h : k < ps.length) : (qF ps)[k * 3]? = some (.inl (nthQ ps k).1) := by
  induction ps generalizing k with
  | nil => simp at h
  | cons p r ih =>
    cases k with
    | zero => rfl
    | succ k =>
      have := ih (k := k) (by simpa using h)
      have e : (k + 1) * 3 = k * 3 + 1 + 1 + 1 := by omega
      rw [e]
      simpa [qF, nthQ] using this
theorem qF_at1 {ps : List QT} {k : Nat} (h : k < ps.length) : (qF ps)[k * 3 + 1]? = some (.inr (nthQ ps k).2.1) := by
  induction ps generalizing k with
  | nil => simp at h
  | cons p r ih =>
    cases k with
    | zero => rfl
    | succ k =>
      have := ih (k := k) (by simpa using h)
      have e : (k + 1) * 3 + 1 = k * 3 + 1 + 1 + 1 + 1 := by omega
      rw [e]
      simpa [qF, nthQ] using this
theorem qF_at2 {ps : List QT} {k : Nat} (h : k < ps.length) : (qF ps)[k * 3 + 2]? = some (.inl (nthQ ps k).2.2) := by
  induction ps generalizing k with
  | nil => simp at h
  | cons p r ih =>
    cases k with
    | zero => rfl
    | succ k =>
      have := ih (k := k) (by simpa using h)
      have e : (k + 1) * 3 + 2 = k * 3 + 2 + 1 + 1 + 1 := by omega
      rw [e]
      simpa [qF, nthQ] using this
theorem qF_append (a b : List QT) : qF (a ++ b) = qF a ++ qF b := by simp [qF]
theorem Try.infoQP : (Try.prog.info? 44).map (fun i => (i.zero, i.size, i.bytes)) = some (some (.agg #[.int .i64 0, .slice none 0 0, .int .i64 0]), 3, 40) := by kernel_rfl
/-- The value is a slice of shapes with powers that the call owns. -/
def OU (w : World) (base b : Nat) (v : Value) (ps : List QT) (cells : List Value) : Prop := OF w base b 44 3 v ps.length (qF ps) cells
theorem OU.below {w w' : World} {base b : Nat} {v : Value} {ps : List QT} {cells : List Value} (h : OU w base b v ps cells) (hb : Below w.heap.size w w') : OU w' base b v ps cells := OF.below h hb
theorem FRs.three {w : World} {b : Nat} {u : Value} {l : List Int} {x y : Int} (h : OI w b u l) : FRs w b [.inl x, .inr l, .inl y] [.int .i64 x, u, .int .i64 y] :=
  FRs.append (fs := [.inl x]) (fs2 := [.inr l, .inl y]) (cells := [.int .i64 x]) (news := [u, .int .i64 y]) (FRs.one_ (x := .inl x) rfl) (FRs.two h)
theorem Dist.three (u : Value) (x y : Int) : Dist [.int .i64 x, u, .int .i64 y] :=
  Dist.append (cells := [.int .i64 x]) (news := [u, .int .i64 y]) (Dist.one _) (Dist.two u y) fun a ha _ _ => .inl (by simp at ha; subst ha; rfl)

/-- 'append(out, QPart{x, u, y})': at whatever world in which the part lies in a new block. -/
theorem run_appU {w0 : World} {base b : Nat} {v u : Value} {ps : List QT} {cells : List Value} {l : List Int} {px y : Int} (ty : TypeId) (hown : OU w0 base b v ps cells) (hu : OI w0 b u l)
    (hap : ∀ u' ∈ cells, u'.ownBlock = none ∨ u'.ownBlock ≠ u.ownBlock) (hlen : ps.length + 1 ≤ 1000000000000) (hbase : base ≤ w0.heap.size) :
    ∃ v' w', (Builtin.append_ #[27, 27] ty #[v, .slice (some ⟨w0.heap.size, 0, none⟩) 1 1]).run Try.prog (w0.alloc (.cells #[.int .i64 px, u, .int .i64 y] 44)) = .ok v' w' ∧
      OU w' base b v' (ps ++ [(px, l, y)]) (cells ++ [.int .i64 px, u, .int .i64 y]) ∧ (w0.alloc (.cells #[.int .i64 px, u, .int .i64 y] 44)).grownBy w' v.ownBlock ∧ (v'.ownBlock = v.ownBlock ∨ v'.ownBlock = some (w0.heap.size + 1)) := by
  obtain ⟨v', w', hr, h2, h3, h5⟩ := run_appF (P := Try.prog) (w := w0.alloc (.cells #[.int .i64 px, u, .int .i64 y] 44)) (base := base) (b := b) (t := 27) (e := 44) (size := 3) (bytes := 40) (z := .agg #[.int .i64 0, .slice none 0 0, .int .i64 0]) (v := v)
    (n := ps.length) (fs := qF ps) (fs2 := [.inl px, .inr l, .inl y]) (cells := cells) (news := [.int .i64 px, u, .int .i64 y]) ty Try.underlying27 Try.infoQP rfl (by omega) (by omega) (by decide) (OF.alloc hown _) ⟨w0.heap.size, 0, none⟩ 1 rfl
    (new_cells w0 [.int .i64 px, u, .int .i64 y] _) (FRs.three (OI.alloc hu _)) (Dist.three _ _ _) (fun a ha a' ha' => by
      simp at ha'
      rcases ha' with rfl | rfl | rfl
      · rcases h : a.ownBlock with _ | k
        · exact .inl rfl
        · exact .inr (by simp [Value.ownBlock])
      · exact hap a ha
      · rcases h : a.ownBlock with _ | k
        · exact .inl rfl
        · exact .inr (by simp [Value.ownBlock])) hlen (by simp; omega)
  refine ⟨v', w', hr, ?_, h3, by simpa using h5⟩
  unfold OU
  rw [qF_append, List.length_append]
  exact h2

theorem wpAppU {w0 : World} {ops : Array Oper} {rest : List Oper} {o : Oper} {a : Act} {Q : Exit → Act → World → Prop} (hgd : o.guard = none) (s x : Operand)
    (ho : o.op = .call { callee := .builtin .append, args := #[s, x], argTypes := #[27, 27] })
    (base b : Nat) (v u : Value) (ps : List QT) (cells : List Value) (l : List Int) (px y : Int) (hs : a.eval s = v) (hx : a.eval x = .slice (some ⟨w0.heap.size, 0, none⟩) 1 1)
    (hown : OU w0 base b v ps cells) (hu : OI w0 b u l) (hap : ∀ u' ∈ cells, u'.ownBlock = none ∨ u'.ownBlock ≠ u.ownBlock) (hlen : ps.length + 1 ≤ 1000000000000) (hbase : base ≤ w0.heap.size)
    (h : ∀ v' w', OU w' base b v' (ps ++ [(px, l, y)]) (cells ++ [.int .i64 px, u, .int .i64 y]) → (w0.alloc (.cells #[.int .i64 px, u, .int .i64 y] 44)).grownBy w' v.ownBlock → (v'.ownBlock = v.ownBlock ∨ v'.ownBlock = some (w0.heap.size + 1)) → wpList Try.prog ops Q rest (a.put o.dst v') w') :
    wpList Try.prog ops Q (o :: rest) a (w0.alloc (.cells #[.int .i64 px, u, .int .i64 y] 44)) := by
  refine wpList_plain hgd fun K hK => ?_
  obtain ⟨v', w', hr, h2, h3, h5⟩ := run_appU (px := px) (y := y) o.type hown hu hap hlen hbase
  unfold Oper.wp execOp
  simp only [ho, resolve, invoke, builtin, Sem.run_bind, Sem.run_pure, Result.andThen_ok, List.map_toArray, List.map_cons, List.map_nil, hs, hx, hr]
  exact hK _ _ (h v' w' h2 h3 h5)

/-- The same at a region that draws its order. -/
theorem stepAppU {w0 : World} {ops : Array Oper} {o : Oper} {a : Act} {K : Act → World → Prop} {Q : Exit → Act → World → Prop} {E : Prop} (hgd : o.guard = none) (s x : Operand)
    (ho : o.op = .call { callee := .builtin .append, args := #[s, x], argTypes := #[27, 27] })
    (base b : Nat) (v u : Value) (ps : List QT) (cells : List Value) (l : List Int) (px y : Int) (hs : a.eval s = v) (hx : a.eval x = .slice (some ⟨w0.heap.size, 0, none⟩) 1 1)
    (hown : OU w0 base b v ps cells) (hu : OI w0 b u l) (hap : ∀ u' ∈ cells, u'.ownBlock = none ∨ u'.ownBlock ≠ u.ownBlock) (hlen : ps.length + 1 ≤ 1000000000000) (hbase : base ≤ w0.heap.size)
    (h : ∀ v' w', OU w' base b v' (ps ++ [(px, l, y)]) (cells ++ [.int .i64 px, u, .int .i64 y]) → (w0.alloc (.cells #[.int .i64 px, u, .int .i64 y] 44)).grownBy w' v.ownBlock → (v'.ownBlock = v.ownBlock ∨ v'.ownBlock = some (w0.heap.size + 1)) → K (a.put o.dst v') w') :
    if Region.wanted o (yielded ops a.tmps) = true then Oper.wp Try.prog o a (w0.alloc (.cells #[.int .i64 px, u, .int .i64 y] 44)) K Q else E := by
  have hw : Region.wanted o (yielded ops a.tmps) = true := by simp [Region.wanted, hgd]
  rw [if_pos hw]
  obtain ⟨v', w', hr, h2, h3, h5⟩ := run_appU (px := px) (y := y) o.type hown hu hap hlen hbase
  unfold Oper.wp execOp
  simp only [ho, resolve, invoke, builtin, Sem.run_bind, Sem.run_pure, Result.andThen_ok, List.map_toArray, List.map_cons, List.map_nil, hs, hx, hr]
  exact h v' w' h2 h3 h5

theorem OU.cell {w : World} {base b g n c k : Nat} {ps : List QT} {cells : List Value} (h : OU w base b (.slice (some ⟨g, 0, none⟩) n c) ps cells) (hk : k < ps.length) :
    ∃ A' n' c', w.cell? ⟨g, k * 3, none⟩ = some (.int .i64 (nthQ ps k).1) ∧ w.cell? ⟨g, k * 3 + 1, none⟩ = some (.slice A' n' c') ∧ cells[k * 3 + 1]? = some (.slice A' n' c') ∧ OI w b (.slice A' n' c') (nthQ ps k).2.1 ∧ n' ≤ c' ∧ w.cell? ⟨g, k * 3 + 2, none⟩ = some (.int .i64 (nthQ ps k).2.2) := by
  have hn : n = ps.length := by
    obtain ⟨A, c', hv, _⟩ := OF.form h
    injection hv
  subst hn
  obtain ⟨u, hu, hf⟩ := h.2.1.at_ (qF_at1 hk)
  have hf' : OI w b u (nthQ ps k).2.1 := hf
  obtain ⟨A', n', c', rfl, _, hcc, _⟩ := hf'.form
  obtain ⟨u', hu', hf2⟩ := h.2.1.at_ (qF_at2 hk)
  have hf2' : u' = .int .i64 (nthQ ps k).2.2 := hf2
  obtain ⟨u0, hu0, hf0⟩ := h.2.1.at_ (qF_at0 hk)
  have hf0' : u0 = .int .i64 (nthQ ps k).1 := hf0
  subst hf2' hf0'
  exact ⟨A', n', c', by rw [OF.cellF h (by omega), hu0], by rw [OF.cellF h (by omega), hu], hu, hf', hcc, by rw [OF.cellF h (by omega), hu']⟩
theorem OU.form {w : World} {base b : Nat} {v : Value} {ps : List QT} {cells : List Value} (h : OU w base b v ps cells) : ∃ A n c, v = .slice A n c ∧ ps.length = n ∧ n ≤ c ∧ c ≤ 9223372036854775807 := by
  obtain ⟨A, c, hv, h1, h2, _⟩ := OF.form h
  exact ⟨A, ps.length, c, hv, rfl, h1, h2⟩
/-- What a function leaves that returns a new slice of them. -/
def MakesU (w : World) (ps : List QT) : Ending → World → Prop := fun e w' =>
  ∃ A n c cells, e = .returned (.slice A n c) ∧ OU w' w.heap.size w.heap.size (.slice A n c) ps cells ∧ ps.length = n ∧ (n ≤ c ∧ c ≤ 9223372036854775807) ∧ Below w.heap.size w w'
theorem MakesU.of {w w' : World} {v : Value} {ps : List QT} {cells : List Value} (h : OU w' w.heap.size w.heap.size v ps cells) (hb : Below w.heap.size w w') : MakesU w ps (.returned v) w' := by
  obtain ⟨A, n, c, rfl, h1, h2, h3⟩ := h.form
  exact ⟨A, n, c, cells, rfl, h, h1, ⟨h2, h3⟩, hb⟩
def MakesUb (w : World) (ps : List QT) (ok : Bool) : Ending → World → Prop := fun e w' =>
  ∃ A n c cells, e = .returned (.tuple #[.slice A n c, .bool ok]) ∧ OU w' w.heap.size w.heap.size (.slice A n c) ps cells ∧ ps.length = n ∧ (n ≤ c ∧ c ≤ 9223372036854775807) ∧ Below w.heap.size w w'
theorem MakesUb.of {w w' : World} {v : Value} {ps : List QT} {cells : List Value} {ok : Bool} (h : OU w' w.heap.size w.heap.size v ps cells) (hb : Below w.heap.size w w') : MakesUb w ps ok (.returned (.tuple #[v, .bool ok])) w' := by
  obtain ⟨A, n, c, rfl, h1, h2, h3⟩ := h.form
  exact ⟨A, n, c, cells, rfl, h, h1, ⟨h2, h3⟩, hb⟩
theorem OU.nil_ (w : World) (base b : Nat) : OU w base b (.slice none 0 0) [] [] := OF.nil_ _ _ _ _ _
theorem OU.lit (w : World) (base b : Nat) (hb : base ≤ w.heap.size) : OU (w.alloc (.cells #[] 44)) base b (.slice (some ⟨w.heap.size, 0, none⟩) 0 0) [] [] := by
  have := World.ownsRow_lit (e := 44) (size := 3) (base := base) w #[] 0 hb (by simp only [maxLen]; omega) (by simp)
  exact ⟨by simpa using this, FRs.nil_, Dist.nil_⟩
/-- Small enough. -/
def SmallU (ps : List QT) : Prop := ∀ k, k < ps.length → (nthQ ps k).2.1.length ≤ 1000000 ∧ (-1000000000000 ≤ (nthQ ps k).1 ∧ (nthQ ps k).1 ≤ 1000000000000) ∧ -1000000000000 ≤ (nthQ ps k).2.2 ∧ (nthQ ps k).2.2 ≤ 1000000000000

end Go.Proofs.Ytbemglmnnehllaa
