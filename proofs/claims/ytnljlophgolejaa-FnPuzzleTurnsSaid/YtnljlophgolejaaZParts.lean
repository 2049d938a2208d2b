/- Slices of puzzles: append, reading. -/
import Derived.Test.YtnljlophgolejaaWords
import Derived.Test.YtnljlophgolejaaTileP
namespace Go.Proofs.Ytnljlophgolejaa
open Go.RowKit

def nthZ (ps : List PZ) (k : Nat) : PZ := ps.getD k ([], [], [])
theorem nthZ_lt {ps : List PZ} {k : Nat} (h : k < ps.length) : nthZ ps k = ps[k] := by simp [nthZ, List.getD, h]
theorem nthZ_mem {ps : List PZ} {k : Nat} (h : k < ps.length) : nthZ ps k ∈ ps := by rw [nthZ_lt h]; exact List.getElem_mem h
/-- The fields of puzzles of one size. -/
def zF (n : Int) (ps : List PZ) : List (Int ⊕ List Int) := ps.flatMap fun p => [.inl n, .inr p.1, .inr p.2.1, .inr p.2.2]
theorem zF_len (n : Int) (ps : List PZ) : (zF n ps).length = ps.length * 4 := by
  induction ps with
  | nil => rfl
  | cons p r ih => simp only [zF, List.flatMap_cons, List.length_append] at ih ⊢; simp [ih]; omega
theorem zF_at {n : Int} {ps : List PZ} {k : Nat} (h : k < ps.length) : (zF n ps)[k * 4]? = some (.inl n) ∧ (zF n ps)[k * 4 + 1]? = some (.inr (nthZ ps k).1) ∧ (zF n ps)[k * 4 + 2]? = some (.inr (nthZ ps k).2.1) ∧ (zF n ps)[k * 4 + 3]? = some (.inr (nthZ ps k).2.2) := by
  induction ps generalizing k with
  | nil => simp at h
  | cons p r ih =>
    cases k with
    | zero => exact ⟨rfl, rfl, rfl, rfl⟩
    | succ k =>
      obtain ⟨h0, h1, h2, h3⟩ := ih (k := k) (by simpa using h)
      have e : (k + 1) * 4 = k * 4 + 1 + 1 + 1 + 1 := by omega
      have e1 : (k + 1) * 4 + 1 = k * 4 + 1 + 1 + 1 + 1 + 1 := by omega
      have e2 : (k + 1) * 4 + 2 = k * 4 + 2 + 1 + 1 + 1 + 1 := by omega
      have e3 : (k + 1) * 4 + 3 = k * 4 + 3 + 1 + 1 + 1 + 1 := by omega
      have en : nthZ (p :: r) (k + 1) = nthZ r k := rfl
      rw [e1, e2, e3, e, en]
      refine ⟨by simpa [zF] using h0, by simpa [zF] using h1, by simpa [zF] using h2, by simpa [zF] using h3⟩
theorem zF_append (n : Int) (a b : List PZ) : zF n (a ++ b) = zF n a ++ zF n b := by simp [zF]
theorem Try.infoPz : (Try.prog.info? 53).map (fun i => (i.zero, i.size, i.bytes)) = some (some (.agg #[.int .i64 0, .slice none 0 0, .slice none 0 0, .slice none 0 0]), 4, 80) := by kernel_rfl
/-- The value is a slice of puzzles that the call owns. -/
def OZ (w : World) (base b : Nat) (v : Value) (n : Int) (ps : List PZ) (cells : List Value) : Prop := OF w base b 53 4 v ps.length (zF n ps) cells
theorem OZ.below {w w' : World} {base b : Nat} {v : Value} {n : Int} {ps : List PZ} {cells : List Value} (h : OZ w base b v n ps cells) (hb : Below w.heap.size w w') : OZ w' base b v n ps cells := OF.below h hb
theorem FRs.four {w : World} {b : Nat} {n : Int} {u1 u2 u3 : Value} {x y z : List Int} (h1 : OI w b u1 x) (h2 : OI w b u2 y) (h3 : OI w b u3 z) : FRs w b [.inl n, .inr x, .inr y, .inr z] [.int .i64 n, u1, u2, u3] :=
  FRs.append (fs := [.inl n]) (fs2 := [.inr x, .inr y, .inr z]) (cells := [.int .i64 n]) (news := [u1, u2, u3]) (FRs.one_ (x := .inl n) rfl)
    (FRs.append (fs := [.inr x]) (fs2 := [.inr y, .inr z]) (cells := [u1]) (news := [u2, u3]) (FRs.one_ (x := .inr x) h1)
      (FRs.append (fs := [.inr y]) (fs2 := [.inr z]) (cells := [u2]) (news := [u3]) (FRs.one_ (x := .inr y) h2) (FRs.one_ (x := .inr z) h3)))
theorem Dist.four (n : Int) {u1 u2 u3 : Value} (h12 : u1.ownBlock = none ∨ u1.ownBlock ≠ u2.ownBlock) (h13 : u1.ownBlock = none ∨ u1.ownBlock ≠ u3.ownBlock) (h23 : u2.ownBlock = none ∨ u2.ownBlock ≠ u3.ownBlock) : Dist [.int .i64 n, u1, u2, u3] :=
  Dist.append (cells := [.int .i64 n]) (news := [u1, u2, u3]) (Dist.one _)
    (Dist.append (cells := [u1]) (news := [u2, u3]) (Dist.one _) (Dist.append (cells := [u2]) (news := [u3]) (Dist.one _) (Dist.one _) fun a ha a' ha' => by simp at ha ha'; subst ha ha'; exact h23)
      fun a ha a' ha' => by
        simp at ha ha'
        subst ha
        rcases ha' with rfl | rfl
        · exact h12
        · exact h13)
    fun a ha _ _ => .inl (by simp at ha; subst ha; rfl)

/-- 'append(out, p)', p in a new block. -/
theorem run_appZ {w0 : World} {base b : Nat} {v u1 u2 u3 : Value} {n : Int} {ps : List PZ} {cells : List Value} {x y z : List Int} (ty : TypeId) (hown : OZ w0 base b v n ps cells) (h1 : OI w0 b u1 x) (h2 : OI w0 b u2 y) (h3 : OI w0 b u3 z)
    (d12 : u1.ownBlock = none ∨ u1.ownBlock ≠ u2.ownBlock) (d13 : u1.ownBlock = none ∨ u1.ownBlock ≠ u3.ownBlock) (d23 : u2.ownBlock = none ∨ u2.ownBlock ≠ u3.ownBlock)
    (hap : ∀ u' ∈ cells, ∀ u, u = u1 ∨ u = u2 ∨ u = u3 → u'.ownBlock = none ∨ u'.ownBlock ≠ u.ownBlock) (hlen : ps.length + 1 ≤ 1000000000000) (hbase : base ≤ w0.heap.size) :
    ∃ v' w', (Builtin.append_ #[27, 27] ty #[v, .slice (some ⟨w0.heap.size, 0, none⟩) 1 1]).run Try.prog (w0.alloc (.cells #[.int .i64 n, u1, u2, u3] 53)) = .ok v' w' ∧
      OZ w' base b v' n (ps ++ [(x, y, z)]) (cells ++ [.int .i64 n, u1, u2, u3]) ∧ (w0.alloc (.cells #[.int .i64 n, u1, u2, u3] 53)).grownBy w' v.ownBlock ∧ (v'.ownBlock = v.ownBlock ∨ v'.ownBlock = some (w0.heap.size + 1)) := by
  obtain ⟨v', w', hr, q2, q3, q5⟩ := run_appF (P := Try.prog) (w := w0.alloc (.cells #[.int .i64 n, u1, u2, u3] 53)) (base := base) (b := b) (t := 27) (e := 53) (size := 4) (bytes := 80) (z := .agg #[.int .i64 0, .slice none 0 0, .slice none 0 0, .slice none 0 0]) (v := v)
    (n := ps.length) (fs := zF n ps) (fs2 := [.inl n, .inr x, .inr y, .inr z]) (cells := cells) (news := [.int .i64 n, u1, u2, u3]) ty Try.underlying27 Try.infoPz rfl (by omega) (by omega) (by decide) (OF.alloc hown _) ⟨w0.heap.size, 0, none⟩ 1 rfl
    (new_cells w0 [.int .i64 n, u1, u2, u3] _) (FRs.four (OI.alloc h1 _) (OI.alloc h2 _) (OI.alloc h3 _)) (Dist.four n d12 d13 d23) (fun a ha a' ha' => by
      simp at ha'
      rcases ha' with rfl | rfl | rfl | rfl
      · rcases h : a.ownBlock with _ | k
        · exact .inl rfl
        · exact .inr (by simp [Value.ownBlock])
      · exact hap a ha _ (.inl rfl)
      · exact hap a ha _ (.inr (.inl rfl))
      · exact hap a ha _ (.inr (.inr rfl))) hlen (by simp; omega)
  refine ⟨v', w', hr, ?_, q3, by simpa using q5⟩
  unfold OZ
  rw [zF_append, List.length_append]
  exact q2

theorem wpAppZ {w0 : World} {ops : Array Oper} {rest : List Oper} {o : Oper} {a : Act} {Q : Exit → Act → World → Prop} (hgd : o.guard = none) (s x' : Operand)
    (ho : o.op = .call { callee := .builtin .append, args := #[s, x'], argTypes := #[27, 27] })
    (base b : Nat) (v u1 u2 u3 : Value) (n : Int) (ps : List PZ) (cells : List Value) (x y z : List Int) (hs : a.eval s = v) (hx : a.eval x' = .slice (some ⟨w0.heap.size, 0, none⟩) 1 1)
    (hown : OZ w0 base b v n ps cells) (h1 : OI w0 b u1 x) (h2 : OI w0 b u2 y) (h3 : OI w0 b u3 z)
    (d12 : u1.ownBlock = none ∨ u1.ownBlock ≠ u2.ownBlock) (d13 : u1.ownBlock = none ∨ u1.ownBlock ≠ u3.ownBlock) (d23 : u2.ownBlock = none ∨ u2.ownBlock ≠ u3.ownBlock)
    (hap : ∀ u' ∈ cells, ∀ u, u = u1 ∨ u = u2 ∨ u = u3 → u'.ownBlock = none ∨ u'.ownBlock ≠ u.ownBlock) (hlen : ps.length + 1 ≤ 1000000000000) (hbase : base ≤ w0.heap.size)
    (h : ∀ v' w', OZ w' base b v' n (ps ++ [(x, y, z)]) (cells ++ [.int .i64 n, u1, u2, u3]) → (w0.alloc (.cells #[.int .i64 n, u1, u2, u3] 53)).grownBy w' v.ownBlock → (v'.ownBlock = v.ownBlock ∨ v'.ownBlock = some (w0.heap.size + 1)) → wpList Try.prog ops Q rest (a.put o.dst v') w') :
    wpList Try.prog ops Q (o :: rest) a (w0.alloc (.cells #[.int .i64 n, u1, u2, u3] 53)) := by
  refine wpList_plain hgd fun K hK => ?_
  obtain ⟨v', w', hr, q2, q3, q5⟩ := run_appZ (n := n) o.type hown h1 h2 h3 d12 d13 d23 hap hlen hbase
  unfold Oper.wp execOp
  simp only [ho, resolve, invoke, builtin, Sem.run_bind, Sem.run_pure, Result.andThen_ok, List.map_toArray, List.map_cons, List.map_nil, hs, hx, hr]
  exact hK _ _ (h v' w' q2 q3 q5)

theorem OZ.cell {w : World} {base b g N c k : Nat} {n : Int} {ps : List PZ} {cells : List Value} (h : OZ w base b (.slice (some ⟨g, 0, none⟩) N c) n ps cells) (hk : k < ps.length) :
    ∃ u1 u2 u3, w.cell? ⟨g, k * 4, none⟩ = some (.int .i64 n) ∧ w.cell? ⟨g, k * 4 + 1, none⟩ = some u1 ∧ w.cell? ⟨g, k * 4 + 2, none⟩ = some u2 ∧ w.cell? ⟨g, k * 4 + 3, none⟩ = some u3 ∧
      OI w b u1 (nthZ ps k).1 ∧ OI w b u2 (nthZ ps k).2.1 ∧ OI w b u3 (nthZ ps k).2.2 := by
  have hn : N = ps.length := by
    obtain ⟨A, c', hv, _⟩ := OF.form h
    injection hv
  subst hn
  obtain ⟨z0, z1, z2, z3⟩ := zF_at (n := n) hk
  obtain ⟨u0, hu0, hf0⟩ := h.2.1.at_ z0
  obtain ⟨u1, hu1, hf1⟩ := h.2.1.at_ z1
  obtain ⟨u2, hu2, hf2⟩ := h.2.1.at_ z2
  obtain ⟨u3, hu3, hf3⟩ := h.2.1.at_ z3
  have hf0' : u0 = .int .i64 n := hf0
  subst hf0'
  exact ⟨u1, u2, u3, by rw [OF.cellF h (by omega), hu0], by rw [OF.cellF h (by omega), hu1], by rw [OF.cellF h (by omega), hu2], by rw [OF.cellF h (by omega), hu3], hf1, hf2, hf3⟩
theorem OZ.form {w : World} {base b : Nat} {v : Value} {n : Int} {ps : List PZ} {cells : List Value} (h : OZ w base b v n ps cells) : ∃ A N c, v = .slice A N c ∧ ps.length = N ∧ N ≤ c ∧ c ≤ 9223372036854775807 := by
  obtain ⟨A, c, hv, h1, h2, _⟩ := OF.form h
  exact ⟨A, ps.length, c, hv, rfl, h1, h2⟩
theorem OZ.lit (w : World) (base b : Nat) (n : Int) (hb : base ≤ w.heap.size) : OZ (w.alloc (.cells #[] 53)) base b (.slice (some ⟨w.heap.size, 0, none⟩) 0 0) n [] [] := by
  have := World.ownsRow_lit (e := 53) (size := 4) (base := base) w #[] 0 hb (by simp only [maxLen]; omega) (by simp)
  exact ⟨by simpa using this, FRs.nil_, Dist.nil_⟩
/-- What a function leaves that returns a new slice of puzzles. -/
def MakesZ (w : World) (base b : Nat) (n : Int) (ps : List PZ) : Ending → World → Prop := fun e w' =>
  ∃ A N c cells, e = .returned (.slice A N c) ∧ OZ w' base b (.slice A N c) n ps cells ∧ ps.length = N ∧ Below base w w'
end Go.Proofs.Ytnljlophgolejaa
