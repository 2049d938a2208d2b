/- Slices of terms: append, cells, what they read as. -/
import Derived.Test.YtgbojgmmingfdaaPolyOk
import Derived.Test.YtgbojgmmingfdaaWords
namespace Go.Proofs.Ytgbojgmmingfdaa
open Go.RowKit

theorem tF_part (ps : List (List Int × Int)) : tF ps = partF ps := List.flatMap_def.symm
theorem tF_append (a b : List (List Int × Int)) : tF (a ++ b) = tF a ++ tF b := by simp [tF]
theorem tF_at0 {ps : List (List Int × Int)} {k : Nat} (h : k < ps.length) : (tF ps)[k * 2]? = some (.inr (nthP ps k).1) := by rw [tF_part]; exact partF_at0 h
theorem tF_at1 {ps : List (List Int × Int)} {k : Nat} (h : k < ps.length) : (tF ps)[k * 2 + 1]? = some (.inl (nthP ps k).2) := by rw [tF_part]; exact partF_at1 h
theorem Try.infoTerm : (Try.prog.info? 81).map (fun i => (i.zero, i.size, i.bytes)) = some (some (.agg #[.slice none 0 0, .int .i64 0]), 2, 32) := by kernel_rfl
/-- 'append(out, Term{u, y})': at whatever world in which the part lies in a new block. -/
theorem run_appT {w0 : World} {base b : Nat} {v u : Value} {ps : List (List Int × Int)} {cells : List Value} {l : List Int} {y : Int} (ty : TypeId) (hown : OT w0 base b v ps cells) (hu : OI w0 b u l)
    (hap : ∀ u' ∈ cells, u'.ownBlock = none ∨ u'.ownBlock ≠ u.ownBlock) (hlen : ps.length + 1 ≤ 1000000000000) (hbase : base ≤ w0.heap.size) :
    ∃ v' w', (Builtin.append_ #[23, 23] ty #[v, .slice (some ⟨w0.heap.size, 0, none⟩) 1 1]).run Try.prog (w0.alloc (.cells #[u, .int .i64 y] 81)) = .ok v' w' ∧
      OT w' base b v' (ps ++ [(l, y)]) (cells ++ [u, .int .i64 y]) ∧ (w0.alloc (.cells #[u, .int .i64 y] 81)).grownBy w' v.ownBlock ∧ (v'.ownBlock = v.ownBlock ∨ v'.ownBlock = some (w0.heap.size + 1)) := by
  obtain ⟨v', w', hr, h2, h3, h5⟩ := run_appF (P := Try.prog) (w := w0.alloc (.cells #[u, .int .i64 y] 81)) (base := base) (b := b) (t := 23) (e := 81) (size := 2) (bytes := 32) (z := .agg #[.slice none 0 0, .int .i64 0]) (v := v)
    (n := ps.length) (fs := tF ps) (fs2 := [.inr l, .inl y]) (cells := cells) (news := [u, .int .i64 y]) ty Try.underlying23 Try.infoTerm rfl (by omega) (by omega) (by decide) (OF.alloc hown _) ⟨w0.heap.size, 0, none⟩ 1 rfl
    (new_cells w0 [u, .int .i64 y] _) (FRs.two (OI.alloc hu _)) (Dist.two _ _) (fun a ha a' ha' => by
      simp at ha'
      rcases ha' with rfl | rfl
      · exact hap a ha
      · rcases h : a.ownBlock with _ | k
        · exact .inl rfl
        · exact .inr (by simp [Value.ownBlock])) hlen (by simp; omega)
  refine ⟨v', w', hr, ?_, h3, by simpa using h5⟩
  unfold OT
  rw [tF_append, List.length_append]
  exact h2

theorem wpAppT {w0 : World} {ops : Array Oper} {rest : List Oper} {o : Oper} {a : Act} {Q : Exit → Act → World → Prop} (hgd : o.guard = none) (s x : Operand)
    (ho : o.op = .call { callee := .builtin .append, args := #[s, x], argTypes := #[23, 23] })
    (base b : Nat) (v u : Value) (ps : List (List Int × Int)) (cells : List Value) (l : List Int) (y : Int) (hs : a.eval s = v) (hx : a.eval x = .slice (some ⟨w0.heap.size, 0, none⟩) 1 1)
    (hown : OT w0 base b v ps cells) (hu : OI w0 b u l) (hap : ∀ u' ∈ cells, u'.ownBlock = none ∨ u'.ownBlock ≠ u.ownBlock) (hlen : ps.length + 1 ≤ 1000000000000) (hbase : base ≤ w0.heap.size)
    (h : ∀ v' w', OT w' base b v' (ps ++ [(l, y)]) (cells ++ [u, .int .i64 y]) → (w0.alloc (.cells #[u, .int .i64 y] 81)).grownBy w' v.ownBlock → (v'.ownBlock = v.ownBlock ∨ v'.ownBlock = some (w0.heap.size + 1)) → wpList Try.prog ops Q rest (a.put o.dst v') w') :
    wpList Try.prog ops Q (o :: rest) a (w0.alloc (.cells #[u, .int .i64 y] 81)) := by
  refine wpList_plain hgd fun K hK => ?_
  obtain ⟨v', w', hr, h2, h3, h5⟩ := run_appT (y := y) o.type hown hu hap hlen hbase
  unfold Oper.wp execOp
  simp only [ho, resolve, invoke, builtin, Sem.run_bind, Sem.run_pure, Result.andThen_ok, List.map_toArray, List.map_cons, List.map_nil, hs, hx, hr]
  exact hK _ _ (h v' w' h2 h3 h5)

/-- The same at a region that draws its order. -/
theorem stepAppT {w0 : World} {ops : Array Oper} {o : Oper} {a : Act} {K : Act → World → Prop} {Q : Exit → Act → World → Prop} {E : Prop} (hgd : o.guard = none) (s x : Operand)
    (ho : o.op = .call { callee := .builtin .append, args := #[s, x], argTypes := #[23, 23] })
    (base b : Nat) (v u : Value) (ps : List (List Int × Int)) (cells : List Value) (l : List Int) (y : Int) (hs : a.eval s = v) (hx : a.eval x = .slice (some ⟨w0.heap.size, 0, none⟩) 1 1)
    (hown : OT w0 base b v ps cells) (hu : OI w0 b u l) (hap : ∀ u' ∈ cells, u'.ownBlock = none ∨ u'.ownBlock ≠ u.ownBlock) (hlen : ps.length + 1 ≤ 1000000000000) (hbase : base ≤ w0.heap.size)
    (h : ∀ v' w', OT w' base b v' (ps ++ [(l, y)]) (cells ++ [u, .int .i64 y]) → (w0.alloc (.cells #[u, .int .i64 y] 81)).grownBy w' v.ownBlock → (v'.ownBlock = v.ownBlock ∨ v'.ownBlock = some (w0.heap.size + 1)) → K (a.put o.dst v') w') :
    if Region.wanted o (yielded ops a.tmps) = true then Oper.wp Try.prog o a (w0.alloc (.cells #[u, .int .i64 y] 81)) K Q else E := by
  have hw : Region.wanted o (yielded ops a.tmps) = true := by simp [Region.wanted, hgd]
  rw [if_pos hw]
  obtain ⟨v', w', hr, h2, h3, h5⟩ := run_appT (y := y) o.type hown hu hap hlen hbase
  unfold Oper.wp execOp
  simp only [ho, resolve, invoke, builtin, Sem.run_bind, Sem.run_pure, Result.andThen_ok, List.map_toArray, List.map_cons, List.map_nil, hs, hx, hr]
  exact h v' w' h2 h3 h5

theorem OT.cell {w : World} {base b g n c k : Nat} {ps : List (List Int × Int)} {cells : List Value} (h : OT w base b (.slice (some ⟨g, 0, none⟩) n c) ps cells) (hk : k < ps.length) :
    ∃ A' n' c', w.cell? ⟨g, k * 2, none⟩ = some (.slice A' n' c') ∧ cells[k * 2]? = some (.slice A' n' c') ∧ OI w b (.slice A' n' c') (nthP ps k).1 ∧ n' ≤ c' ∧ w.cell? ⟨g, k * 2 + 1, none⟩ = some (.int .i64 (nthP ps k).2) := by
  have hn : n = ps.length := by
    obtain ⟨A, c', hv, _⟩ := OF.form h
    injection hv
  subst hn
  obtain ⟨u, hu, hf⟩ := h.2.1.at_ (tF_at0 hk)
  have hf' : OI w b u (nthP ps k).1 := hf
  obtain ⟨A', n', c', rfl, _, hcc, _⟩ := hf'.form
  obtain ⟨u', hu', hf2⟩ := h.2.1.at_ (tF_at1 hk)
  have hf2' : u' = .int .i64 (nthP ps k).2 := hf2
  subst hf2'
  exact ⟨A', n', c', by rw [OF.cellF h (by omega), hu], hu, hf', hcc, by rw [OF.cellF h (by omega), hu']⟩

theorem OT.rt {w : World} {base b n c : Nat} {A : Option Addr} {ps : List (List Int × Int)} {cells : List Value} (h : OT w base b (.slice A n c) ps cells) : RTm w A n ps := by
  have hn : ps.length = n := by
    obtain ⟨A', c', hv, -⟩ := OF.form h
    exact (slice_inj hv).2.1.symm
  refine ⟨hn, fun k hk => ?_⟩
  obtain ⟨G, cc, hG, -⟩ := OF.shape h (by rw [hn]; omega)
  obtain ⟨rfl, -, -⟩ := slice_inj hG
  obtain ⟨A1, n1, c1, x1, -, x2, x3, x4⟩ := OT.cell h (k := k) (by rw [hn]; exact hk)
  refine ⟨_, rfl, A1, n1, c1, ?_, ?_, x2.ri, ?_⟩
  · rw [show (⟨G, 0, none⟩ : Addr).add (k * 2) = ⟨G, k * 2, none⟩ by unfold Addr.add; split <;> simp_all]; exact x1
  · rw [show (⟨G, 0, none⟩ : Addr).add (k * 2 + 1) = ⟨G, k * 2 + 1, none⟩ by unfold Addr.add; split <;> simp_all]; exact x4
  · have := x2.le.1; have := x2.le.2; omega
end Go.Proofs.Ytgbojgmmingfdaa
