/- Turns of puzzles, plain: the numbers of puzzles with three sides, for strings of at most 6, by the kernel. -/
import Derived.Test.YtnljlophgolejaaCountI
namespace Go.Proofs.Ytnljlophgolejaa

def strs : Nat → List (List Int)
  | 0 => [[]]
  | n + 1 => (strs n).flatMap fun s => [0 :: s, 1 :: s]
theorem strs_mem : ∀ (a : List Int), (∀ x ∈ a, x = 0 ∨ x = 1) → a ∈ strs a.length
  | [], _ => by simp [strs]
  | x :: l, h => by
    rw [List.length_cons, strs, List.mem_flatMap]
    refine ⟨l, strs_mem l fun y hy => h y (List.mem_cons_of_mem _ hy), ?_⟩
    rcases h x (by simp) with rfl | rfl <;> simp
theorem str_strs {a : List Int} (h : isStrB a = true) : a ∈ strs a.length := by
  refine strs_mem a fun x hx => ?_
  obtain ⟨k, hk, e⟩ := List.getElem_of_mem hx
  have := (isStrB_iff.1 h).2 k hk
  rw [nth_lt hk, e] at this
  omega
/-- The third sides of the puzzles with two sides. -/
def thirds (n : Nat) (a b : List Int) : List (List Int) := (spAll false a b).map fun p => sideB n p.2.2 n
def cmpl (a : List Int) : List Int := a.reverse.map fun x => 1 - x
def chkA (n : Nat) (xs : List (List Int)) : Bool := xs.all fun a => (strs n).all fun b => if alikeB a b = true then
    (thirds n a b).all fun c => decide ((thirds n b a).count c = (thirds n a b).count c) && (decide ((thirds n c.reverse a).count b.reverse = (thirds n a b).count c) && decide ((thirds n (cmpl b) (cmpl a)).count (cmpl c) = (thirds n a b).count c))
  else true
def chkT (n : Nat) : Bool := chkA n (strs n)
set_option maxRecDepth 100000 in
theorem chkT1 : chkT 1 = true := by decide +kernel
set_option maxRecDepth 100000 in
theorem chkT2 : chkT 2 = true := by decide +kernel
set_option maxRecDepth 100000 in
theorem chkT3 : chkT 3 = true := by decide +kernel
set_option maxRecDepth 100000 in
theorem chkT4 : chkT 4 = true := by decide +kernel
set_option maxRecDepth 100000 in
theorem chkT5 : chkT 5 = true := by decide +kernel
end Go.Proofs.Ytnljlophgolejaa
