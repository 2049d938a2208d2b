/- The walk over a polynomial's map. -/
import Derived.Test.YtgbojgmmingfdaaPolyR
import Derived.Test.YtgbojgmmingfdaaPolyA
namespace Go.Proofs.Ytgbojgmmingfdaa
open Go.RowKit Go.Maps Go.MapKept Go.WideMaps

section
variable {H : Type} (w : World) {ops : Array Oper} {rest : List Oper} {o : Oper} {a : Act} {Q : Exit → Act → World → Prop}
set_option maxRecDepth 100000 in
theorem wpList_range_poly (hg : o.guard = none) (m : Operand) (hop : o.op = Op.range TM m) (b n : Nat) (acc : List (List Int × Int)) (hm : a.eval m = .map (some b)) (h : PM H w b n acc) (hgood : GoodP acc)
    (hK : ∀ w', PR H w' b w.heap.size n acc [] acc.length → w.grownBy w' none → w'.heap.size = w.heap.size + 1 → wpList Try.prog ops Q rest (a.put o.dst (.pointer (some ⟨w.heap.size, 0, none⟩))) w') :
    wpList Try.prog ops Q (o :: rest) a w := by
  obtain ⟨D, ho, hp, hs⟩ := h
  refine wpList_range_own w hg m TM hop 76 3 lawK Try.underlying73 _ b n D hm ho fun w' hr g1 g2 => ?_
  rw [PM.size ho hp hgood] at hr
  exact hK w' (PR.start hr hp) g1 g2
set_option maxRecDepth 100000 in
theorem wpList_next_poly (hg : o.guard = none) (it : Operand) (hop : o.op = Op.next it false) (b r n : Nat) (acc L : List (List Int × Int)) (cnt : Nat) (hit : a.eval it = .pointer (some ⟨r, 0, none⟩)) (h : PR H w b r n acc L cnt) (hgood : GoodP acc)
    (hDone : cnt = 0 → L.Perm acc → wpList Try.prog ops Q rest (a.put o.dst (.tuple #[.bool false])) w)
    (hMore : ∀ (e : List Int) (c : Int) (w' : World) (cnt' : Nat), (e, c) ∈ acc → PR H w' b r n acc (L ++ [(e, c)]) cnt' → cnt' < cnt → w.grownBy w' (some r) → w'.heap.size = w.heap.size →
      (Instr.entry (.pointer (some ⟨r, 0, none⟩))).run Try.prog w' = .ok (.tuple #[kv e, .int .i64 c]) w' → wpList Try.prog ops Q rest (a.put o.dst (.tuple #[.bool true, kv e, .int .i64 c])) w') :
    wpList Try.prog ops Q (o :: rest) a w := by
  refine wpList_plain hg fun K' hK' => ?_
  unfold Oper.wp
  rcases h.next hgood o.type with ⟨h0, hl, hrun⟩ | ⟨x, w', cnt', hx, hrun, hp, hlt, hgr, hsz, hen⟩
  · simp [execOp, hop, hit, hrun, Result.andThen]
    exact hK' _ _ (hDone h0 hl)
  · simp [execOp, hop, hit, hrun, Result.andThen]
    exact hK' _ _ (hMore x.1 x.2 w' cnt' hx hp hlt hgr hsz hen)
end
theorem PR.left_eq {H : Type} {w : World} {b r n cnt : Nat} {acc L : List (List Int × Int)} (h : PR H w b r n acc L cnt) : w.rangeLeft b r = cnt := by
  obtain ⟨D, left, hr, -⟩ := h
  exact hr.left_eq
end Go.Proofs.Ytgbojgmmingfdaa
