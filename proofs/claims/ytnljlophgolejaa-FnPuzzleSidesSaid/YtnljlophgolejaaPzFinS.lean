/- Puzzles of strings of at most 6: their sides, turned and reflected, by the kernel. -/
import Derived.Test.YtnljlophgolejaaPzFinT
import Derived.Test.YtnljlophgolejaaMirS
import Derived.Test.YtnljlophgolejaaPuzM
namespace Go.Proofs.Ytnljlophgolejaa

def fx (x : Int) (k : Int → Bool) : Bool := if x = 0 then k 0 else if x = 1 then k 1 else if x = 2 then k 2 else k x
theorem fx_eq (x : Int) (k : Int → Bool) : fx x k = k x := by
  unfold fx
  split
  · subst_vars; rfl
  · split
    · subst_vars; rfl
    · split
      · subst_vars; rfl
      · rfl
def fz : List Int → (List Int → Bool) → Bool
  | [], k => k []
  | x :: r, k => fx x fun y => fz r fun s => k (y :: s)
theorem fz_eq : ∀ (l : List Int) (k : List Int → Bool), fz l k = k l
  | [], _ => rfl
  | x :: r, k => by rw [fz, fx_eq, fz_eq r]
def chkS3 (n : Nat) (a b L R B L1 R1 B1 L2 R2 B2 L3 R3 B3 M1 M2 M3 N1 N2 N3 : List Int) : Bool :=
  puzB n L R B false && (decide (sideL n L n = a) && (decide (sideR R n = b) &&
    (puzB n L1 R1 B1 false && (decide (sideR R1 n = a) && (decide (sideL n L1 n = (sideB n B n).reverse) && (decide (sideB n B1 n = b.reverse) &&
      (puzB n L2 R2 B2 false && (decide (L3 = L) && (decide (R3 = R) && (decide (B3 = B) &&
        (puzB n M1 M2 M3 false && (decide (N1 = L) && (decide (N2 = R) && decide (N3 = B))))))))))))))
def chkS2 (n : Nat) (a b L R B : List Int) : Bool :=
  fz (rpzL n L R B) fun L1 => fz (rpzR n L R B) fun R1 => fz (rpzB n L R B) fun B1 =>
  fz (rpzL n L1 R1 B1) fun L2 => fz (rpzR n L1 R1 B1) fun R2 => fz (rpzB n L1 R1 B1) fun B2 =>
  fz (rpzL n L2 R2 B2) fun L3 => fz (rpzR n L2 R2 B2) fun R3 => fz (rpzB n L2 R2 B2) fun B3 =>
  fz (mirL n L R B) fun M1 => fz (mirR n L R B) fun M2 => fz (mirB n L R B) fun M3 =>
  fz (mirL n M1 M2 M3) fun N1 => fz (mirR n M1 M2 M3) fun N2 => fz (mirB n M1 M2 M3) fun N3 =>
  chkS3 n a b L R B L1 R1 B1 L2 R2 B2 L3 R3 B3 M1 M2 M3 N1 N2 N3
def chkS1 (n : Nat) (a b : List Int) (p : PZ) : Bool := fz p.1 fun L => fz p.2.1 fun R => fz p.2.2 fun B => chkS2 n a b L R B
def chkSA (n : Nat) (xs : List (List Int)) : Bool := xs.all fun a => (strs n).all fun b => if alikeB a b = true then (spAll false a b).all fun p => chkS1 n a b p else true
set_option maxRecDepth 100000 in
theorem chkS_small : ((List.range 6).all fun n => chkSA n (strs n)) = true := by decide +kernel
end Go.Proofs.Ytnljlophgolejaa
