/- slices.SortFunc at terms. -/
import Derived.Test.YtgbojgmmingfdaaTermS
namespace Go.Proofs.Ytgbojgmmingfdaa
open Go.RowKit

theorem ent_tm {P : Program} {f : FuncId} {fn : Func} {c : Code} (hf : P.funcs[f]? = some fn) (hname : (fn.name == "runtime.NumGoroutine") = false) (hb : fn.body = some c) (args : Array Value) (w : World) :
    (callFunc f args).run P w = .ok (.enter f args) w := by
  have h1 : fn.name ≠ "runtime.NumGoroutine" := by simpa using hname
  simp [callFunc, hf, h1, hb]
def tF (ps : List (List Int × Int)) : List (Int ⊕ List Int) := (ps.map tE).flatten
/-- The term of its fields. -/
def unE : List (Int ⊕ List Int) → List Int × Int
  | [.inr r, .inl c] => (r, c)
  | _ => ([], 0)
theorem un_tE (p : List Int × Int) : unE (tE p) = p := rfl
theorem tF_len (ps : List (List Int × Int)) : (tF ps).length = ps.length * 2 := by
  induction ps with
  | nil => rfl
  | cons x r ih =>
    have : tF (x :: r) = tE x ++ tF r := rfl
    rw [this, List.length_append, ih, List.length_cons]
    show 2 + _ = _
    omega
/-- The value is a slice of terms that the call owns. -/
def OT (w : World) (base b : Nat) (v : Value) (ps : List (List Int × Int)) (cells : List Value) : Prop := OF w base b 81 2 v ps.length (tF ps) cells
theorem sortT_any {w : World} {base b N c : Nat} {A : Option Addr} {qs : List (List Int × Int)} {cells : List Value} (hq : ∀ x ∈ qs, Ex7B x.1) (h : OT w base b (.slice A N c) qs cells) (hN : N ≤ 1000000000000) :
    Calls Try.prog 135 #[.slice A N c, .func (.func 136) #[] #[]] w (fun e w' => e = .returned (.tuple #[]) ∧ ∃ ps cells', ps.Perm qs ∧ ps.Pairwise (fun x y => ¬ byT y.1 x.1 < 0) ∧ OT w' base b (.slice A N c) ps cells' ∧ w.grownBy w' (Value.ownBlock (.slice A N c))) := by
  rcases qs with _ | ⟨x, qs⟩
  · have hN0 : N = 0 := by
      obtain ⟨A', c', hv, -⟩ := OF.form h
      exact (slice_inj hv).2.1
    subst hN0
    have hcall := AnyF.slices_SortFunc_none (P := Try.prog) (ρ := Try.sortTm_ren) { Try.sortTm with } A c (.func (.func 136) #[] #[]) w
    change Calls Try.prog 135 _ _ _ at hcall
    refine hcall.mono ?_
    rintro e w' ⟨rfl, rfl⟩
    exact ⟨rfl, [], cells, List.Perm.refl _, List.Pairwise.nil, h, World.grownBy.refl _ _⟩
  have h' : OF w base b 81 2 (.slice A N c) ((x :: qs).map tE).length ((x :: qs).map tE).flatten cells := by rw [List.length_map]; exact h
  have hcall := sortF_any (T := 81) Try.sortTm cfT 136 (fun f => ∃ p, Ex7B p.1 ∧ f = tE p) (by decide) Try.isAgg81 Try.sizeOf81
    (fun a _ => by rw [cfT, byT, byFrom_irr]; omega) (fun a b c _ _ _ h1 h2 => byFrom_trans 7 h1 h2)
    (fun a b c _ _ _ h1 h2 h3 => by
      rcases byFrom_total (a := exF a) (b := exF b) 7 with e | e | e
      · exact h1 e
      · have hs := byFrom_same 7 e
        refine h2 ?_
        rw [cfT, byT] at h3 ⊢
        rw [← byFrom_cong 7 hs]
        exact h3
      · exact h2 (byFrom_trans 7 e h3))
    ⟨tE x, cells.take 2, by have h0 := h.2.1.take 2; exact h0, by rw [List.length_take, h.2.1.1, tF_len, List.length_cons]; omega, x, hq x (by simp), rfl⟩
    (ent_tm Try.func136 (by kernel_rfl) rfl) (fun f hf => by obtain ⟨p, hp, rfl⟩ := List.mem_map.1 hf; exact ⟨rfl, p, hq p hp, rfl⟩) h' hN
    (fun W f1 f2 c1 c2 hf1 hf2 ho1 ho2 _ _ => by
      obtain ⟨p, hp, rfl⟩ := ho1
      obtain ⟨q, hq, rfl⟩ := ho2
      obtain ⟨A1, n1, k1, rfl, r1⟩ := term_form hf1
      obtain ⟨C1, m1, d1, rfl, s1⟩ := term_form hf2
      obtain rfl : n1 = 7 := r1.ri.1.symm.trans hp.1
      obtain rfl : m1 = 7 := s1.ri.1.symm.trans hq.1
      exact cmpTm_any _ _ _ _ r1.ri s1.ri hp hq)
  change Calls Try.prog 135 _ _ _ at hcall
  refine hcall.mono ?_
  rintro e w' ⟨rfl, els', cells', hp', hw', ho', gr⟩
  have he : els' = (els'.map unE).map tE := by
    rw [List.map_map]
    refine (List.map_id _).symm.trans (List.map_congr_left fun f hf => ?_)
    obtain ⟨p, -, rfl⟩ := List.mem_map.1 (hp'.mem_iff.1 hf)
    rfl
  refine ⟨rfl, els'.map unE, cells', ?_, ?_, ?_, gr⟩
  · have := hp'.map unE
    rw [List.map_map] at this
    exact this.trans (by rw [show (unE ∘ tE) = id from rfl, List.map_id])
  · rw [List.pairwise_map]
    refine hw'.imp_of_mem fun {x y} hx hy hxy => ?_
    obtain ⟨p, -, rfl⟩ := List.mem_map.1 (hp'.mem_iff.1 hx)
    obtain ⟨q, -, rfl⟩ := List.mem_map.1 (hp'.mem_iff.1 hy)
    exact of_decide_eq_false hxy
  · unfold OT tF
    rw [← he, List.length_map]
    exact ho'
end Go.Proofs.Ytgbojgmmingfdaa
