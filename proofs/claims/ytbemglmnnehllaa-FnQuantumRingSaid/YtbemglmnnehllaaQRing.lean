/- Quantum products of three, in whatever order: plain, by the kernel. -/
import Derived.Test.YtbemglmnnehllaaQProP
import Derived.Test.YtbemglmnnehllaaBoxP
namespace Go.Proofs.Ytbemglmnnehllaa

/-- A quantum sum, times a count and a power, is added. -/
def addL (p cn : Int) : List (List Int × Int) → List (List Int × Int) → List (List Int × Int)
  | [], acc => acc
  | y :: r, acc => addL p cn r (addP acc ((p + y.1.headD 0) :: y.1.tail) (cn * y.2))
/-- A quantum sum times a shape. -/
def mulL (c : List Int) (k n : Int) : List (List Int × Int) → List (List Int × Int) → List (List Int × Int)
  | [], acc => acc
  | x :: r, acc => mulL c k n r (addL (x.1.headD 0) x.2 (qpB x.1.tail c k n) acc)
def mul3 (a b c : List Int) (k n : Int) : List (List Int × Int) := mulL c k n (qpB a b k n) []

/-- Numbers laid out, so that the kernel meets one term where one value is meant. -/
def frc {α : Type} (x : Int) (k : Int → α) : α := if x = 0 then k 0 else if x = 1 then k 1 else if x = 2 then k 2 else if x = 3 then k 3 else if x = 4 then k 4 else if x = 5 then k 5 else if x = 6 then k 6 else k x
theorem frc_eq {α : Type} (x : Int) (k : Int → α) : frc x k = k x := by
  unfold frc
  repeat' split
  all_goals first | rfl | (subst_vars; rfl)
def frcL {α : Type} : List Int → (List Int → α) → α
  | [], k => k []
  | x :: r, k => frc x fun y => frcL r fun s => k (y :: s)
theorem frcL_eq {α : Type} : ∀ (l : List Int) (k : List Int → α), frcL l k = k l
  | [], _ => rfl
  | x :: r, k => by rw [frcL, frc_eq, frcL_eq r]
/-- The same, to be reckoned. -/
def addLR (p cn : Int) : List (List Int × Int) → List (List Int × Int) → List (List Int × Int)
  | [], acc => acc
  | y :: r, acc => addLR p cn r (addR acc ((p + y.1.headD 0) :: y.1.tail) (cn * y.2))
def mulF (c : List Int) (k n : Int) : List (List Int × Int) → List (List Int × Int) → List (List Int × Int)
  | [], acc => acc
  | x :: r, acc => frcL x.1.tail fun t => mulF c k n r (addLR (x.1.headD 0) x.2 (qpB t c k n) acc)
def mul3F (a b c : List Int) (k n : Int) : List (List Int × Int) := frcL a fun a => frcL b fun b => frcL c fun c => mulF c k n (qpB a b k n) []
def one3F (k n : Int) (a b c : List Int) : Bool := decide (mul3F a b c k n = mul3F b c a k n) && decide (mul3F a c b k n = mul3F b c a k n)
def two3F (k n : Int) (a : List Int) : List (List Int) → Bool
  | [] => true
  | b :: r => (b :: r).all (fun c => one3F k n a b c) && two3F k n a r
def all3F (k n : Int) : List (List Int) → Bool
  | [] => true
  | a :: r => two3F k n a (a :: r) && all3F k n r
/-- What is asked of a product of two. -/
def twoF (k n : Int) (a b : List Int) : Bool :=
  decide (qpB a b k n = qpB b a k n) && (decide ((qpB a b k n).length ≤ 100) && (qpB a b k n).all fun x => decide (1 ≤ x.2 ∧ x.2 ≤ 100) && (decide (0 ≤ x.1.headD 0 ∧ x.1.headD 0 ≤ 100) && (decide (x.1 ≠ []) && inBoxB x.1.tail k n)))
def boxF (K M : Nat) : Bool := ((shapesIn K M).all fun a => frcL a fun a => (shapesIn K M).all fun b => frcL b fun b => twoF K ((K : Int) + M) a b) && all3F K ((K : Int) + M) (shapesIn K M)
set_option maxRecDepth 100000 in
theorem boxF_small : ((List.range 6).all fun K => (List.range (6 - K)).all fun M => decide (K + M < 2 ∨ K = 0) || boxF K M) = true := by decide +kernel
set_option maxRecDepth 100000 in
theorem boxF_15 : boxF 1 5 = true := by decide +kernel
set_option maxRecDepth 100000 in
theorem boxF_51 : boxF 5 1 = true := by decide +kernel
set_option maxRecDepth 100000 in
theorem boxF_60 : boxF 6 0 = true := by decide +kernel
set_option maxRecDepth 100000 in
theorem boxF_24 : boxF 2 4 = true := by decide +kernel
set_option maxRecDepth 100000 in
theorem boxF_42 : boxF 4 2 = true := by decide +kernel
end Go.Proofs.Ytbemglmnnehllaa
