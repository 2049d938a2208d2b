/- Keys of seven exponents, and what a polynomial's map holds. -/
import Derived.Test.YtgbojgmmingfdaaPolyE
namespace Go.Proofs.Ytgbojgmmingfdaa
open Go.RowKit Go.Maps Go.MapKept Go.WideMaps

theorem keyLits_int {P : Program} {e : TypeId} (he : P.underlying e = some (.int .i64)) {m : Nat} {v : Value} {ls : List Lit} (h : P.keyLits (m + 1) e [v] = some ls) : ∃ a, v = .int .i64 a ∧ (Lit.int .i64 a).wf = true := by
  unfold Program.keyLits at h
  rw [he] at h
  cases v <;> simp at h
  obtain ⟨⟨h1, h2⟩, -⟩ := h
  exact ⟨_, by rw [h1], h2⟩
theorem arr_inv {P : Program} {k e : TypeId} (A : ArrKey P k e 7) (he : P.underlying e = some (.int .i64)) (hrow : k < P.types.size) {v : Value} {l : Lit} (h : keyOf P k v = some l) : ∃ e, Ex7 e ∧ v = kv e := by
  obtain ⟨m0, hm0⟩ : ∃ m, P.types.size = m + 1 := Nat.exists_eq_succ_of_ne_zero (Nat.pos_iff_ne_zero.1 (Nat.lt_of_le_of_lt (Nat.zero_le _) hrow))
  unfold keyOf at h
  simp only [A.hu] at h
  split at h
  case isFalse => cases h
  rename_i hf0
  rw [Bool.and_eq_true] at hf0
  have hf := hf0.2
  clear hf0
  unfold Value.formed at hf
  rw [A.hu] at hf
  cases v <;> simp at hf
  rename_i xs
  rw [A.size] at hf
  obtain ⟨l, rfl⟩ : ∃ l : List Value, xs = l.toArray := ⟨xs.toList, by simp⟩
  simp at hf
  rcases l with _ | ⟨a, _ | ⟨b, _ | ⟨c, _ | ⟨d, _ | ⟨f, _ | ⟨g, _ | ⟨i, _ | ⟨j, r⟩⟩⟩⟩⟩⟩⟩⟩
  all_goals first | (exfalso; simp only [List.length_cons, List.length_nil] at hf; omega) | skip
  unfold Program.keyLits at h
  simp only [A.hu, Value.cells] at h
  rw [if_pos (by rw [A.size]; simp), hm0] at h
  simp [List.range_succ, A.one, Option.bind_eq_some_iff] at h
  obtain ⟨_, h1, _, ⟨_, h2, _, ⟨_, h3, _, ⟨_, h4, _, ⟨_, h5, _, ⟨_, h6, _, ⟨_, h7, -⟩, -⟩, -⟩, -⟩, -⟩, -⟩, -⟩ := h
  obtain ⟨a, rfl, w1⟩ := keyLits_int he h1
  obtain ⟨b, rfl, w2⟩ := keyLits_int he h2
  obtain ⟨c, rfl, w3⟩ := keyLits_int he h3
  obtain ⟨d, rfl, w4⟩ := keyLits_int he h4
  obtain ⟨f, rfl, w5⟩ := keyLits_int he h5
  obtain ⟨g, rfl, w6⟩ := keyLits_int he h6
  obtain ⟨i, rfl, w7⟩ := keyLits_int he h7
  refine ⟨[a, b, c, d, f, g, i], ⟨rfl, ?_⟩, rfl⟩
  simp only [List.mem_cons, List.not_mem_nil, or_false, forall_eq_or_imp, forall_eq]
  exact ⟨w1, w2, w3, w4, w5, w6, w7⟩
theorem kv_inv {v : Value} {l : Lit} (h : keyOf Try.prog 76 v = some l) : ∃ e, Ex7 e ∧ v = kv e ∧ l = kl e :=
  match arr_inv arrK Try.underlying3 rowK h with
  | ⟨e, he, hv⟩ => ⟨e, he, hv, Option.some.inj (h.symm.trans ((congrArg _ hv).trans (keyOf_kv he)))⟩
end Go.Proofs.Ytgbojgmmingfdaa
