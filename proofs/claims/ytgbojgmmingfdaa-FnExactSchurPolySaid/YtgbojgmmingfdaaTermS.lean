/- slices.SortFunc at terms, by byTerms. -/
import Derived.Test.YtgbojgmmingfdaaSortF
import Derived.Test.YtgbojgmmingfdaaSortR5
import Derived.Test.YtgbojgmmingfdaaTerms
namespace Go.Proofs.Ytgbojgmmingfdaa
open Go.RowKit

/-- The fields of one term. -/
def tE (p : List Int × Int) : List (Int ⊕ List Int) := [.inr p.1, .inl p.2]
/-- The exponents among the fields. -/
def exF : List (Int ⊕ List Int) → List Int
  | [.inr r, _] => r
  | _ => []
def cfT (x y : List (Int ⊕ List Int)) : Int := byT (exF x) (exF y)
theorem term_form {w : World} {b : Nat} {p : List Int × Int} {c : List Value} (h : FRs w b (tE p) c) : ∃ A n k, c = [.slice A n k, .int .i64 p.2] ∧ OI w b (.slice A n k) p.1 := by
  have hl := h.1
  obtain ⟨u0, h0, f0⟩ := h.at_ (j := 0) (x := .inr p.1) rfl
  obtain ⟨u1, h1, f1⟩ := h.at_ (j := 1) (x := .inl p.2) rfl
  have f0' : OI w b u0 p.1 := f0
  have f1' : u1 = .int .i64 p.2 := f1
  obtain ⟨A, n, k, rfl, -⟩ := f0'.form
  refine ⟨A, n, k, ?_, f0'⟩
  subst f1'
  refine List.ext_getElem? fun j => ?_
  have hj : j = 0 ∨ j = 1 ∨ 2 ≤ j := by omega
  rcases hj with rfl | rfl | hj
  · exact h0
  · exact h1
  · rw [List.getElem?_eq_none (by rw [hl]; simpa [tE] using hj), List.getElem?_eq_none (by simpa using hj)]

/-- The exponents of a term that can be compared. -/
def Ex7B (e : List Int) : Prop := e.length = 7 ∧ ∀ j, j < 7 → -1000000000 ≤ nth e j ∧ nth e j ≤ 1000000000
set_option maxHeartbeats 1000000 in
/-- The closure that closed sorts by. -/
theorem cmpTm_any {A C : Option Addr} {x y : List Int} {W : World} (p q : Int) (c d : Nat) (h1 : RI W A 7 x) (h2 : RI W C 7 y) (hx : Ex7B x) (hy : Ex7B y) :
    Calls Try.prog 136 #[.agg #[.slice A 7 c, .int .i64 p], .agg #[.slice C 7 d, .int .i64 q]] W
      (fun e w' => e = .returned (.int .i64 (byT x y)) ∧ ∃ q os', w' = Go.Sort.grow (W.drewN q) os') := by
  have HE : Hid (∀ W', Below W.heap.size W W' → Calls Try.prog 137 #[.slice A 7 c, .slice C 7 d] W' (Gives W' (.int .i64 (byT x y)))) := fun W' b => byT_any _ _ (h1.below b) (h2.below b) fun j hj => by
    have a1 := hx.2 j hj
    have a2 := hy.2 j hj
    omega
  clear h1 h2 hx hy
  generalize byT x y = r at HE ⊢
  go_enter Try.func136, Try.ntmps136
  go_wp2_with (go_at_call 137; (with_reducible refine (HE.out _ ?_).mono ?_); (exact ((Below.refl _ _).alloc (Nat.le_refl _) _).alloc (by simp) _); rintro e w' ⟨rfl, q, rfl⟩)
  go_ret
  exact ⟨rfl, q, _, by rw [Go.Sort.alloc_eq_grow, Go.Sort.alloc_eq_grow, Go.Sort.grow_grow]; rfl⟩
end Go.Proofs.Ytgbojgmmingfdaa
