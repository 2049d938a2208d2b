/- TableauxOf of the program: all tableaux are listed. -/
import Derived.Test.YtgbojgmmingfdaaCnt
import Derived.Test.YtgbojgmmingfdaaFillT
import Derived.Test.YtgbojgmmingfdaaSchurB
namespace Go.Proofs.Ytgbojgmmingfdaa
open Go.RowKit

/-- A list of tableaux, all of whose blocks are among O. -/
structure O3o (w : World) (base : Nat) (O : Nat → Prop) (v : Value) (Ts : List (List (List Int))) (cells : List Value) : Prop where
  row : w.ownsRow base 42 1 v Ts.length cells
  blk : ∀ k, v.ownBlock = some k → O k
  els : ∀ (j : Nat) (T : List (List Int)) (u : Value), Ts[j]? = some T → cells[j]? = some u → ∃ pc, OS w base base u T pc ∧ (∀ k, u.ownBlock = some k → O k) ∧ ∀ x ∈ pc, ∀ k, x.ownBlock = some k → O k
section
variable {w w' : World} {base : Nat} {O O' : Nat → Prop} {v : Value} {Ts : List (List (List Int))} {cells : List Value}
theorem O3o.o3 (h : O3o w base O v Ts cells) : O3 w base v Ts cells := ⟨h.row, fun j T u h1 h2 => by obtain ⟨pc, h3, -⟩ := h.els j T u h1 h2; exact ⟨pc, h3⟩⟩
theorem O3o.keep (h : O3o w base O v Ts cells) (hb : ∀ k, O k → w'.heap[k]? = w.heap[k]?) : O3o w' base O v Ts cells := by
  refine ⟨⟨h.row.1, ?_⟩, h.blk, fun j T u h1 h2 => ?_⟩
  · rcases h.row.2 with h1 | ⟨g, cap, cur, rfl, h2, hg, r⟩
    · exact .inl h1
    · exact .inr ⟨g, cap, cur, rfl, h2, (hb g (h.blk g rfl)).trans hg, r⟩
  · obtain ⟨pc, h3, h4, h5⟩ := h.els j T u h1 h2
    exact ⟨pc, OF.sameV h3 (fun k hk => hb k (h4 k hk)) fun x hx k hk => hb k (h5 x hx k hk), h4, h5⟩
theorem O3o.mono (h : O3o w base O v Ts cells) (hO : ∀ k, O k → O' k) : O3o w base O' v Ts cells := ⟨h.row, fun k hk => hO k (h.blk k hk), fun j T u h1 h2 => by
  obtain ⟨pc, h3, h4, h5⟩ := h.els j T u h1 h2
  exact ⟨pc, h3, fun k hk => hO k (h4 k hk), fun x hx k hk => hO k (h5 x hx k hk)⟩⟩
theorem O3o.nil_ (w : World) (base : Nat) (O : Nat → Prop) (hb : base ≤ w.heap.size) (hO : O w.heap.size) : O3o (w.alloc (.cells #[] 42)) base O (.slice (some ⟨w.heap.size, 0, none⟩) 0 0) [] [] :=
  ⟨(O3.lit w base hb).row, fun k hk => by simp [Value.ownBlock] at hk; exact hk ▸ hO, fun j T u h => by simp at h⟩
end
/-- 'append(all, p)', p with blocks of its own, in a region that draws its order. -/
theorem stepApp3o {w0 : World} {ops : Array Oper} {o : Oper} {a : Act} {K : Act → World → Prop} {Q : Exit → Act → World → Prop} {E : Prop} (hgd : o.guard = none) (s x : Operand)
    (ho : o.op = .call { callee := .builtin .append, args := #[s, x], argTypes := #[56, 56] })
    (base : Nat) (O O' : Nat → Prop) (v u : Value) (Ts : List (List (List Int))) (cells pc : List Value) (T : List (List Int)) (hs : a.eval s = v) (hx : a.eval x = .slice (some ⟨w0.heap.size, 0, none⟩) 1 1)
    (hown : O3o w0 base O v Ts cells) (hu : OS w0 base base u T pc) (hOO : ∀ k, O k → O' k) (hO1 : O' (w0.heap.size + 1)) (hu1 : ∀ k, u.ownBlock = some k → O' k) (hu2 : ∀ y ∈ pc, ∀ k, y.ownBlock = some k → O' k) (hlen : Ts.length + 1 ≤ 1000000000000) (hbase : base ≤ w0.heap.size)
    (h : ∀ v' w', O3o w' base O' v' (Ts ++ [T]) (cells ++ [u]) → (w0.alloc (.cells #[u] 42)).grownBy w' v.ownBlock → K (a.put o.dst v') w') :
    if Region.wanted o (yielded ops a.tmps) = true then Oper.wp Try.prog o a (w0.alloc (.cells #[u] 42)) K Q else E := by
  have hw : Region.wanted o (yielded ops a.tmps) = true := by simp [Region.wanted, hgd]
  rw [if_pos hw]
  obtain ⟨i0, hi, hz, hs1, hb⟩ := info_parts Try.infoRows
  have hbel : Below w0.heap.size w0 (w0.alloc (.cells #[u] 42)) := (Below.refl _ _).alloc (Nat.le_refl _) _
  have hown0 := hown.o3
  have hown1 := hown0.below hbel
  have hu1' : OS (w0.alloc (.cells #[u] 42)) base base u T pc := OF.below hu hbel
  obtain ⟨A, n, c, hform, -⟩ := OS.form hu
  obtain ⟨v', w', hr, h2, h3, _, h5⟩ := run_append_own_at (P := Try.prog) (w0.alloc (.cells #[u] 42)) base 56 o.type 42 i0 (.slice none 0 0) 1 24 Try.underlying56 hi hz hs1 hb rfl (by omega) v Ts.length cells hown1.row ⟨w0.heap.size, 0, none⟩ 1 1 [u] rfl (new_cells w0 [u] _)
    (fun y hy => by rw [List.mem_singleton.1 hy, hform]; rfl) (by simp only [maxLen]; omega) (by omega) (by simp; omega)
  unfold Oper.wp execOp
  simp only [ho, resolve, invoke, builtin, Sem.run_bind, Sem.run_pure, Result.andThen_ok, List.map_toArray, List.map_cons, List.map_nil, hs, hx, hr]
  refine h v' w' ⟨by rw [List.length_append]; exact h2, fun k hk => ?_, fun j T' u' hj hj2 => ?_⟩ h3
  · rcases h5 with h5 | h5
    · rw [h5] at hk; exact hOO k (hown.blk k hk)
    · rw [h5] at hk
      simp at hk
      exact hk ▸ hO1
  have hcl := hown0.cells_len
  rcases Nat.lt_or_ge j Ts.length with hlt | hge
  · rw [List.getElem?_append_left hlt] at hj
    rw [List.getElem?_append_left (by omega)] at hj2
    obtain ⟨pc', h4, h6, h7⟩ := hown.els j T' u' hj hj2
    exact ⟨pc', hown1.elsKept (OF.below h4 hbel) h3, fun k hk => hOO k (h6 k hk), fun y hy k hk => hOO k (h7 y hy k hk)⟩
  · rw [List.getElem?_append_right hge] at hj
    rw [List.getElem?_append_right (by omega), hcl] at hj2
    have h0 : j - Ts.length = 0 := by have := (List.getElem?_eq_some_iff.1 hj).1; simp at this; omega
    rw [h0] at hj hj2
    simp at hj hj2
    subst hj hj2
    exact ⟨pc, hown1.elsKept hu1' h3, hu1, hu2⟩
/-- Its blocks lie in the heap. -/
theorem O3o.lies {w : World} {base : Nat} {O : Nat → Prop} {v : Value} {Ts : List (List (List Int))} {cells : List Value} (h : O3o w base O v Ts cells) : O3o w base (fun k => O k ∧ base ≤ k ∧ k < w.heap.size) v Ts cells :=
  ⟨h.row, fun k hk => ⟨h.blk k hk, World.ownsRow.lt h.row k hk⟩, fun j T u h1 h2 => by
    obtain ⟨pc, h3, h4, h5⟩ := h.els j T u h1 h2
    exact ⟨pc, h3, fun k hk => ⟨h4 k hk, OF.lt h3 k hk⟩, fun x hx k hk => ⟨h5 x hx k hk, h3.2.1.ltC hx k hk⟩⟩⟩
theorem Kept.of_grownO {O : Nat → Prop} {w w' : World} {row : Option Nat} (h : w.grownBy w' row) (hO : ∀ g, row = some g → O g) : Kept O w w' :=
  ⟨h.os, h.tape, h.output, h.size, fun k hk hn => h.block k hk fun e => hn (hO k e.symm)⟩
/-- What the closure's variable holds. -/
structure TabI (w0 : World) (gf : Nat) (w : World) (Ts : List (List (List Int))) (O : Nat → Prop) : Prop where
  gfO : O gf
  ge : ∀ k, O k → w0.heap.size ≤ k ∧ k < w.heap.size
  bel : Below w0.heap.size w0 w
  var : ∃ A n c cells, BK w gf 56 [.slice A n c] ∧ O3o w w0.heap.size (fun k => O k ∧ k ≠ gf) (.slice A n c) Ts cells
/-- Behind the store. -/
theorem TabI.step {w0 w w6 w7 : World} {gf n7 c7 : Nat} {A7 : Option Addr} {x : Value} {o : Obj} {row : Option Nat} {Ts Ts' : List (List (List Int))} {O : Nat → Prop} {cells7 : List Value} (hi : TabI w0 gf w Ts O) (b6 : Below w.heap.size w w6) (g7 : (w6.alloc o).grownBy w7 row) (hrow : ∀ g, row = some g → O g)
    (ho : O3o w7 w0.heap.size (fun k => (O k ∨ w.heap.size ≤ k) ∧ k ≠ gf) (.slice A7 n7 c7) Ts' cells7) (hk : BK w7 gf 56 [x]) :
    ∃ O' : Nat → Prop, TabI w0 gf (w7.setCell ⟨gf, 0, none⟩ (.slice A7 n7 c7)) Ts' O' ∧ (∀ k, O' k → O k ∨ w.heap.size ≤ k) ∧ Kept O w (w7.setCell ⟨gf, 0, none⟩ (.slice A7 n7 c7)) := by
  have hs6 := b6.size
  have b6a : Below w.heap.size w (w6.alloc o) := b6.alloc hs6 o
  have hs7 := g7.size
  have hgf := hi.ge gf hi.gfO
  have hsa : w6.heap.size ≤ (w6.alloc o).heap.size := by simp
  have hg8 := hk.grown 0 (.slice A7 n7 c7)
  have hs8 := hg8.size
  have hK7 : Kept O w w7 := (Kept.of_below b6a).trans (fun k h => .inl h) (Kept.of_grownO g7 hrow)
  have hK8 : Kept O w (w7.setCell ⟨gf, 0, none⟩ (.slice A7 n7 c7)) := hK7.trans (fun k h => .inl h) (Kept.of_grownO hg8 fun g e => by injection e with e; exact e ▸ hi.gfO)
  refine ⟨fun k => (O k ∨ w.heap.size ≤ k) ∧ w0.heap.size ≤ k ∧ k < (w7.setCell ⟨gf, 0, none⟩ (.slice A7 n7 c7)).heap.size, ⟨⟨.inl hi.gfO, hgf.1, by omega⟩, fun k h => h.2, ?_, A7, n7, c7, cells7, ?_, ?_⟩, fun k h => h.1, hK8⟩
  · exact hi.bel.trans (hK8.low (fun k h => (hi.ge k h).1) hi.bel.size)
  · exact hk.set 0 _
  · refine (ho.lies.keep fun k h => hg8.block k h.2.2 fun e => ?_).mono fun k h => ⟨⟨h.1.1, h.2.1, by omega⟩, h.1.2⟩
    injection e with e
    exact h.1.2 e
set_option maxRecDepth 100000 in
set_option maxHeartbeats 1000000 in
theorem seeTab_any {w0 w : World} {gf : Nat} {Ts : List (List (List Int))} {O : Nat → Prop} {T : List (List Int)} {A : Option Addr} {m c : Nat} {cells : List Value} (hi : TabI w0 gf w Ts O) (hl : Ts.length + 1 ≤ 400) (hT : TO w0.heap.size w O (.slice A m c) T cells) (hTl : T.length ≤ 1000) (hrl : ∀ k, k < T.length → (nthL T k).length ≤ 1000) :
    Calls Try.prog 110 #[.slice A m c, .pointer (some ⟨gf, 0, none⟩)] w (fun e w' => e = .returned (.bool true) ∧ ∃ O' : Nat → Prop, TabI w0 gf w' (Ts ++ [T]) O' ∧ (∀ k, O' k → O k ∨ w.heap.size ≤ k) ∧ Kept O w w') := by
  have hm : T.length = m := by
    obtain ⟨A', n', c', e, h1, -⟩ := OS.form hT.1
    rw [h1, (slice_inj e).2.1]
  obtain ⟨A1, n1, c1, cs1, bk, ho⟩ := hi.var
  have HCP : Hid (∀ W, Below w.heap.size w W → Calls Try.prog 111 #[.slice A m c] W (MakesS W T)) := fun W b => copyRows_any c ((OS.rs hT.1 hm.symm).below b) (by omega) fun k hk => by have := hrl k (by omega); omega
  have HI := Lib.hid hi
  have HBK := Lib.hid bk
  have HO := Lib.hid ho
  have HN1 : Hid (Ts.length = n1) := ho.o3.len
  have hn1 : n1 + 1 ≤ 400 := by rw [← HN1.out]; exact hl
  have hgf := (hi.ge gf hi.gfO).2
  have hg0 := (hi.ge gf hi.gfO).1
  have HC : Hid (∀ W, Below w.heap.size w W → W.cell? ⟨gf, 0, none⟩ = some (.slice A1 n1 c1) ∧ W.frozen? ⟨gf, 0, none⟩ = false) := fun W b => ⟨(HBK.out.below b hgf).cell rfl, (HBK.out.below b hgf).frozen⟩
  have HS0 : Hid (w0.heap.size ≤ w.heap.size) := hi.bel.size
  have z0 := (HC.out _ (Below.refl _ _)).1
  have HLE : Hid (Ts.length + 1 ≤ 1000000000000) := by show _ ≤ _; omega
  have HL400 : Hid (Ts.length + 1 ≤ 400) := hl
  clear hi bk ho hT hrl hTl hm hl
  go_enter Try.func110, Try.ntmps110
  go_wp2_with fail
  go_region_law (first
    | (refine stepApp3o rfl _ _ rfl w0.heap.size (fun k => O k ∧ k ≠ gf) (fun k => (O k ∨ w.heap.size ≤ k) ∧ k ≠ gf) (.slice A1 n1 c1) (.slice A6 n6 c6) Ts cs1 pc6 T rfl rfl HO6.out HP6.out (fun k hk => ⟨.inl hk.1, hk.2⟩) HN6.out (fun k hk => HQ6.out.1 k hk) (fun y hy k hk => HQ6.out.2 y hy k hk) HLE.out HS6.out ?_; intro v7 w7 h1 h2; have HO7 := Lib.hid h1; have HG7 := Lib.hid h2; clear h1 h2; obtain ⟨A7, n7, c7, rfl, l7, -⟩ := O3.form HO7.out.o3; have hn7 : n7 ≤ 400 := (by rw [← l7, List.length_append]; exact HL400.out); have HK7 := Lib.hid (HZ7.out w7 HG7.out); have z7 := HK7.out.cell (j := 0) rfl; have f7 := HK7.out.frozen (j := 0))
    | (go_simp; go_at_call 111; (with_reducible refine (HCP.out _ ?_).mono ?_); (exact (Below.refl _ _).drew); rintro e w6 ⟨A6, n6, c6, pc6, rfl, o6, l6, -, b6'⟩;
       have HB6 : Hid (Below w.heap.size w w6) := ⟨b6'.os, b6'.tape, b6'.output, b6'.size, b6'.block⟩;
       have HS6 : Hid (w0.heap.size ≤ w6.heap.size) := Nat.le_trans HS0.out HB6.out.size;
       have HO6 : Hid (O3o w6 w0.heap.size (fun k => O k ∧ k ≠ gf) (.slice A1 n1 c1) Ts cs1) := HO.out.keep (fun k hk => HB6.out.block k (HI.out.ge k hk.1).2);
       have HP6 : Hid (OS w6 w0.heap.size w0.heap.size (.slice A6 n6 c6) T pc6) := OF.mono o6 HS0.out HS0.out;
       have HN6 : Hid ((O (w6.heap.size + 1) ∨ w.heap.size ≤ w6.heap.size + 1) ∧ w6.heap.size + 1 ≠ gf) := ⟨.inr (by have := HB6.out.size; omega), by have := HB6.out.size; omega⟩;
       have HQ6 : Hid ((∀ k, (Value.slice A6 n6 c6).ownBlock = some k → (O k ∨ w.heap.size ≤ k) ∧ k ≠ gf) ∧ ∀ y ∈ pc6, ∀ k, y.ownBlock = some k → (O k ∨ w.heap.size ≤ k) ∧ k ≠ gf) := ⟨fun k hk => (by have h : w.heap.size ≤ k := (OF.lt o6 k hk).1; exact ⟨.inr h, by omega⟩), fun y hy k hk => (by have h : w.heap.size ≤ k := (o6.2.1.ltC hy k hk).1; exact ⟨.inr h, by omega⟩)⟩;
       have z6 := (HC.out _ HB6.out).1;
       have za6 : ∀ o, (w6.alloc o).cell? ⟨gf, 0, none⟩ = some (.slice A1 n1 c1) := fun o => (HC.out _ (HB6.out.alloc HB6.out.size o)).1;
       have HZ7 : Hid (∀ W, (w6.alloc (.cells #[.slice A6 n6 c6] 42)).grownBy W (Value.slice A1 n1 c1).ownBlock → BK W gf 56 [.slice A1 n1 c1]) := (fun W hW =>
         (HBK.out.below (HB6.out.alloc HB6.out.size (.cells #[.slice A6 n6 c6] 42)) hgf).same (hW.block gf (by have := HB6.out.size; simp; omega) fun e => (HO.out.blk gf e.symm).2 rfl));
       clear o6 b6'))
  all_goals go_wp2_with fail
  all_goals go_ret
  all_goals exact ⟨by show Ending.returned (.bool (decide ((n7 : Int) ≤ 400))) = _; rw [decide_eq_true (by omega)], HI.out.step HB6.out HG7.out (fun g e => (HO.out.blk g e).1) HO7.out HK7.out⟩
end Go.Proofs.Ytgbojgmmingfdaa

/- TableauxOf of the program, where the list is not too long. -/
namespace Go.Proofs.Ytgbojgmmingfdaa
open Go.RowKit

theorem tabC {w0 : World} {gf : Nat} : ClosT Try.prog 110 #[.pointer (some ⟨gf, 0, none⟩)] w0.heap.size (List (List (List Int))) (TabI w0 gf) (fun s t => s ++ [t]) (fun _ _ => true) (fun s m => s.length + m ≤ 400) okT8 where
  ent := ent_of Try.func110 (by kernel_rfl) rfl
  ge hi k hk := hi.ge k hk
  keep := fun {w w' s O} hi hk => ⟨hi.gfO, fun k h => ⟨(hi.ge k h).1, by have := (hi.ge k h).2; have := hk.size; omega⟩, hi.bel.trans (hk.low (fun k h => h.1) hi.bel.size), by
    obtain ⟨A, n, c, cells, bk, ho⟩ := hi.var
    exact ⟨A, n, c, cells, bk.same (hk.block gf bk.lt fun h => h.2 hi.gfO), ho.keep fun k h => hk.block k (hi.ge k h.1).2 fun h2 => h2.2 h.1⟩⟩
  next := fun {s p m} h _ _ => by rw [List.length_append, List.length_singleton]; omega
  less h hm := by omega
  call hi hf hp hT := seeTab_any hi (by omega) hT hp.2.2 fun k hk => by have := row_sum hk; have := hp.2.1; omega
theorem foldl_snoc {α : Type} : ∀ (l s : List α), l.foldl (fun s t => s ++ [t]) s = s ++ l
  | [], s => by simp
  | x :: l, s => by rw [List.foldl_cons, foldl_snoc l]; simp
set_option maxRecDepth 100000 in
set_option maxHeartbeats 1000000 in
theorem iTab_any {w : World} {A : Option Addr} {m : Nat} {ms : List Int} (c n : Nat) (hx : RI w A m ms) (hm : m ≤ 1000000000) (hs : smallB ms = true) (hn : n ≤ 7) (hlen : (tabs ms n).length ≤ 400) :
    Calls Try.prog 38 #[.slice A m c, .int .i64 (n : Int)] w (fun e w' => ∃ v cells, e = .returned (.tuple #[v, .bool true]) ∧ O3 w' w.heap.size v (tabs ms n) cells ∧ Below w.heap.size w w') := by
  have HBA : Hid (∀ W, RI W A m ms → Calls Try.prog 62 #[.slice A m c] W (Gives W (.bool true))) := fun W h => by
    have h2 := iSmall_any c h hm
    rw [hs] at h2
    exact h2
  have HF := Lib.hid (small_facts hs)
  have HTL : Hid ((tabs ms n).length ≤ 400) := hlen
  have HOT : Hid (∀ q ∈ tabs ms n, okT8 q) := fun q hq => by
    obtain ⟨hd, hpos, h8, hl16, hb1000⟩ := HF.out
    obtain ⟨a1, a2⟩ := tabR_mem _ _ q hq
    have a3 := sum_nat hd
    have a4 := congrArg List.length a2
    rw [List.length_map, List.length_map] at a4
    exact ⟨fun r hr x hx => by have := a1 r hr x hx; omega, by rw [a2]; omega, by omega⟩
  have HX := Lib.hid hx
  have HW : Hid (∀ q, Below w.heap.size w (((w.drewN q).alloc (.cells #[] 42)).alloc (.cells #[.slice (some ⟨w.heap.size, 0, none⟩) 0 0] 56))) := fun q => ((below_drewN (Below.refl _ w) q).alloc (Nat.le_refl _) _).alloc (by simp) _
  have HI : Hid (∀ q, TabI w (w.heap.size + 1) (((w.drewN q).alloc (.cells #[] 42)).alloc (.cells #[.slice (some ⟨w.heap.size, 0, none⟩) 0 0] 56)) [] (fun k => k = w.heap.size + 1 ∨ k = w.heap.size)) := fun q => by
    refine ⟨.inl rfl, fun k hk => ?_, HW.out q, some ⟨w.heap.size, 0, none⟩, 0, 0, [], ?_, ?_⟩
    · rcases hk with rfl | rfl <;> (simp; try omega)
    · have h := BK.new ((w.drewN q).alloc (.cells #[] 42)) 56 [.slice (some ⟨w.heap.size, 0, none⟩) 0 0]
      simpa using h
    · refine (O3o.nil_ (w.drewN q) w.heap.size _ (Nat.le_refl _) ⟨.inr rfl, by show w.heap.size ≠ _; omega⟩).keep fun k hk => ?_
      refine Below.heap_alloc _ _ k ?_
      rcases hk with ⟨rfl | rfl, h⟩
      · exact absurd rfl h
      · simp
  have HCF : Hid (∀ q, Calls Try.prog 63 #[.slice A m c, .int .i64 (n : Int), .slice none 0 0, .func (.func 110) #[] #[.pointer (some ⟨w.heap.size + 1, 0, none⟩)]] (((w.drewN q).alloc (.cells #[] 42)).alloc (.cells #[.slice (some ⟨w.heap.size, 0, none⟩) 0 0] 56))
      (fun e w' => e = .returned (.bool true) ∧ ∃ g A' n' c' cells, BK w' g 56 [.slice A' n' c'] ∧ g = w.heap.size + 1 ∧ O3 w' w.heap.size (.slice A' n' c') (tabs ms n) cells ∧ Below w.heap.size w w')) := fun q => by
    obtain ⟨hd, hpos, h8, hl16, hb1000⟩ := HF.out
    refine (fill_all (tabC (w0 := w) (gf := w.heap.size + 1)) HX.out hm hpos hd (by omega) hb1000 (HI.out q) (HW.out q) (by have := HTL.out; simp only [List.length_nil]; omega) HOT.out).mono ?_
    rintro e w' ⟨he, O', h1, h2, h3⟩
    rw [seeT_all (fun _ _ => rfl), foldl_snoc, List.nil_append] at he h1
    obtain ⟨A', n', c', cells, v1, v2⟩ := h1.var
    exact ⟨he, _, A', n', c', cells, v1, rfl, v2.o3, h1.bel⟩
  clear hlen hs
  go_enter Try.func38, Try.ntmps38
  go_wp2_with (first
    | (go_at_call 62; (with_reducible refine (HBA.out _ ?_).mono ?_); (first | exact hx | exact hx.drewN _); rintro e w' ⟨rfl, q0, rfl⟩)
    | (go_at_call 63; refine (HCF.out _).mono ?_; rintro e w3 ⟨rfl, g, A3, n3, c3, cs3, f1, f2, f3, f4⟩; subst f2; have f5 := f1.cell (j := 0) rfl; have F3 := Lib.hid f3; have F4 := Lib.hid f4; clear f1 f3 f4)
    | fail)
  go_ret2
  exact ⟨_, cs3, rfl, F3.out, F4.out⟩
end Go.Proofs.Ytgbojgmmingfdaa
