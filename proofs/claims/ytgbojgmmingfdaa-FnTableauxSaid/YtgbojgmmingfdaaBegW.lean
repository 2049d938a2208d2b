/- beginnings of the program: with which numbers a reduced word can begin, and what is left. -/
import Derived.Test.YtgbojgmmingfdaaSwapS
import Derived.Test.YtgbojgmmingfdaaWords
import Derived.Deep.RegionHeld3
import Derived.Deep.CutBlock
import Derived.Test.YtgbojgmmingfdaaSArg
namespace Go.Proofs.Ytgbojgmmingfdaa
open Go.RowKit

/-- 'append(out, u)' at [][]int, in a region that draws its order. -/
theorem stepAppS {w0 : World} {ops : Array Oper} {o : Oper} {a : Act} {K : Act → World → Prop} {Q : Exit → Act → World → Prop} {E : Prop} (hgd : o.guard = none) (s x : Operand)
    (ho : o.op = .call { callee := .builtin .append, args := #[s, x], argTypes := #[42, 42] })
    (base b : Nat) (v u : Value) (ls : List (List Int)) (cells : List Value) (l : List Int) (hs : a.eval s = v) (hx : a.eval x = .slice (some ⟨w0.heap.size, 0, none⟩) 1 1)
    (hown : OS w0 base b v ls cells) (hu : OI w0 b u l) (hap : ∀ u' ∈ cells, u'.ownBlock = none ∨ u'.ownBlock ≠ u.ownBlock) (hlen : ls.length + 1 ≤ 1000000000000) (hbase : base ≤ w0.heap.size)
    (h : ∀ v' w', OS w' base b v' (ls ++ [l]) (cells ++ [u]) → (w0.alloc (.cells #[u] 22)).grownBy w' v.ownBlock → (v'.ownBlock = v.ownBlock ∨ v'.ownBlock = some (w0.heap.size + 1)) → K (a.put o.dst v') w') :
    if Region.wanted o (yielded ops a.tmps) = true then Oper.wp Try.prog o a (w0.alloc (.cells #[u] 22)) K Q else E := by
  have hw : Region.wanted o (yielded ops a.tmps) = true := by simp [Region.wanted, hgd]
  rw [if_pos hw]
  obtain ⟨v', w', hr, h2, h3, h5⟩ := run_appF (P := Try.prog) (w := w0.alloc (.cells #[u] 22)) (base := base) (b := b) (t := 42) (e := 22) (size := 1) (bytes := 24) (z := .slice none 0 0) (v := v)
    (n := ls.length) (fs := rows ls) (fs2 := [.inr l]) (cells := cells) (news := [u]) o.type Try.underlying42 Try.infoInts rfl (by omega) (by omega) (by decide) (OF.alloc hown _) ⟨w0.heap.size, 0, none⟩ 1 rfl
    (new_cells w0 [u] _) (FRs.one_ (OI.alloc hu _)) (Dist.one u) (fun u' hu' u'' hu'' => by
      simp at hu''
      subst hu''
      exact hap u' hu') hlen (by simp; omega)
  unfold Oper.wp execOp
  simp only [ho, resolve, invoke, builtin, Sem.run_bind, Sem.run_pure, Result.andThen_ok, List.map_toArray, List.map_cons, List.map_nil, hs, hx, hr]
  refine h v' w' ?_ h3 (by simpa using h5)
  unfold OS
  rw [rows_append, List.length_append]
  exact h2
theorem OF.sameW {w w' : World} {base b size n : Nat} {e : TypeId} {v : Value} {fs : List (Int ⊕ List Int)} {cells : List Value} (h : OF w base b e size v n fs cells) (hv : ∀ k, v.ownBlock = some k → w'.heap[k]? = w.heap[k]?)
    (hc : ∀ u ∈ cells, ∀ k, u.ownBlock = some k → w'.heap[k]? = w.heap[k]?) : OF w' base b e size v n fs cells := by
  refine ⟨⟨h.1.1, ?_⟩, ⟨h.2.1.1, fun j x u hx hu => ?_⟩, h.2.2⟩
  · rcases h.1.2 with h1 | ⟨g, cap, cur, rfl, hb, hg, r⟩
    · exact .inl h1
    · exact .inr ⟨g, cap, cur, rfl, hb, (hv g rfl).trans hg, r⟩
  · have hf := h.2.1.2 j x u hx hu
    cases x with
    | inl y => exact hf
    | inr l =>
      have hf' : OI w b u l := hf
      refine ⟨hf'.1, ?_⟩
      rcases hf'.2 with h1 | ⟨g, cap, cur, rfl, hb, hg, r⟩
      · exact .inl h1
      · exact .inr ⟨g, cap, cur, rfl, hb, (hc _ (List.mem_of_getElem? hu) g rfl).trans hg, r⟩
theorem FRs.ltD {w : World} {b : Nat} {fs : List (Int ⊕ List Int)} {cells : List Value} (h : FRs w b fs cells) {u : Value} (hu : u ∈ cells) : ∀ k, u.ownBlock = some k → b ≤ k ∧ k < w.heap.size := by
  obtain ⟨j, hj, e⟩ := List.getElem_of_mem hu
  have h1 : cells[j]? = some u := by rw [List.getElem?_eq_getElem hj, e]
  have hlt : j < fs.length := by have := h.1; omega
  exact (h.2 j fs[j] u (List.getElem?_eq_getElem hlt) h1).lt
/-- What holds in the loop of beginnings. -/
structure BegS (w wr : World) (av nv rv : Value) (l nums : List Int) (rests : List (List Int)) (cells : List Value) : Prop where
  a : OI wr w.heap.size av (invB l)
  n : OI wr w.heap.size nv nums
  r : OS wr w.heap.size w.heap.size rv rests cells
  an : ∀ g, nv.ownBlock = some g → av.ownBlock ≠ some g
  cn : ∀ g, nv.ownBlock = some g → ∀ u ∈ cells, u.ownBlock ≠ some g
  bel : Below w.heap.size w wr
section
variable {w w1 w2 : World} {av nv nv' rv rv' : Value} {l nums nums' : List Int} {rests rests' : List (List Int)} {cells : List Value}
theorem BegS.below (h : BegS w w1 av nv rv l nums rests cells) (b : Below w1.heap.size w1 w2) : BegS w w2 av nv rv l nums rests cells :=
  ⟨h.a.below b, h.n.below b, OF.below h.r b, h.an, h.cn, h.bel.trans (b.mono h.bel.size)⟩
theorem OS.typedS {w : World} {base b : Nat} {v : Value} {ls : List (List Int)} {cells : List Value} (h : OS w base b v ls cells) : ∀ g, v.ownBlock = some g → ∃ cs m, w.heap[g]? = some (.cells cs 22 m) := OF.typed h
theorem BegS.appN (h : BegS w w1 av nv rv l nums rests cells) (hg : w1.grownBy w2 nv.ownBlock) (ho : OI w2 w.heap.size nv' nums') (hk : nv'.ownBlock = nv.ownBlock ∨ nv'.ownBlock = some (w1.heap.size + 1)) : BegS w w2 av nv' rv l nums' rests cells := by
  refine ⟨h.a.kept hg ?_, ho, OF.sameW h.r (fun k hk2 => ?_) (fun u hu k hk2 => ?_), fun g e e2 => ?_, fun g e u hu e2 => ?_, h.bel.grown hg h.bel.size fun k hk2 => (h.n.lt k hk2).1⟩
  · rcases ha : av.ownBlock with _ | g
    · exact .inl rfl
    · exact .inr fun e => h.an g e.symm ha
  · refine hg.block k (OF.lt h.r k hk2).2 fun e => ?_
    obtain ⟨cs, m, h1⟩ := OF.typed h.r k hk2
    obtain ⟨cs2, m2, h2⟩ := OI.typed h.n k e.symm
    rw [h1] at h2
    injection h2 with h2
    injection h2 with _ h3
    exact absurd h3 (by decide)
  · exact hg.block k (h.r.2.1.ltD hu k hk2).2 fun e => h.cn k e.symm u hu hk2
  · rcases hk with hk | hk
    · rw [hk] at e; exact h.an g e e2
    · rw [hk] at e
      injection e with e
      have := (h.a.lt g e2).2
      omega
  · rcases hk with hk | hk
    · rw [hk] at e; exact h.cn g e u hu e2
    · rw [hk] at e
      injection e with e
      have := (h.r.2.1.ltD hu g e2).2
      omega
theorem BegS.appR {u : Value} (h : BegS w w1 av nv rv l nums rests cells) (hg : w1.grownBy w2 rv.ownBlock) (ho : OS w2 w.heap.size w.heap.size rv' rests' (cells ++ [u])) (hu : ∀ g, nv.ownBlock = some g → u.ownBlock ≠ some g) : BegS w w2 av nv rv' l nums rests' (cells ++ [u]) := by
  have htr : ∀ g, rv.ownBlock = some g → ∃ cs e m, w1.heap[g]? = some (.cells cs e m) ∧ e ≠ 3 := OF.typed' h.r (by decide)
  refine ⟨h.a.kept_type hg htr, h.n.kept_type hg htr, ho, h.an, fun g e u' hu' => ?_, h.bel.grown hg h.bel.size fun k hk => (OF.lt h.r k hk).1⟩
  rcases List.mem_append.1 hu' with h1 | h1
  · exact h.cn g e u' h1
  · rw [List.mem_singleton.1 h1]; exact hu g e
theorem BegS.step {w5 w6 w7 : World} {u : Value} {r : List Int} (h : BegS w w5 av nv rv l nums rests cells) (b6 : Below w5.heap.size w5 w6) (o6 : OI w6 w5.heap.size u r) (h1 : OS w7 w.heap.size w.heap.size rv' rests' (cells ++ [u])) (h2 : (w6.alloc (.cells #[u] 22)).grownBy w7 rv.ownBlock) : BegS w w7 av nv rv' l nums rests' (cells ++ [u]) :=
  (h.below (b6.alloc b6.size _)).appR h2 h1 fun g e e2 => by have := (h.n.lt g e).2; have := (o6.lt g e2).1; omega
end
theorem OI.gsm {w : World} {base n c : Nat} {A : Option Addr} {l : List Int} (h : OI w base (.slice A n c) l) (hn : 0 < n) : ∃ g, A = some ⟨g, 0, none⟩ := by
  rcases h.2 with ⟨h1, h2⟩ | ⟨g, cap, cur, he, -⟩
  · obtain ⟨-, h3, -⟩ := slice_inj h1; omega
  · exact ⟨g, (slice_inj he).1⟩
theorem swapL_vsw {w : List Int} (hp : Prm w) {k : Nat} (hk : k + 1 < w.length) : swapL w (w.idxOf (k : Int)) (w.idxOf ((k + 1 : Nat) : Int)) = vsw k w := by
  have a := idx_lt hp (x := (k : Int)) (by omega)
  have b := idx_lt hp (x := ((k + 1 : Nat) : Int)) (by omega)
  refine ext_nth (by rw [swapL_len, vsw_len]) fun j hj => ?_
  rw [swapL_len] at hj
  rw [nth_vsw hj, swapL]
  by_cases h1 : w.idxOf ((k + 1 : Nat) : Int) = j
  · rw [h1] at b ⊢
    rw [nth_set_eq (by rw [List.length_set]; exact hj), a.2, b.2]
    unfold vs; (repeat' split) <;> omega
  · rw [nth_set_ne h1]
    by_cases h2 : w.idxOf (k : Int) = j
    · rw [h2] at a ⊢
      rw [nth_set_eq hj, b.2, a.2]
      unfold vs; (repeat' split) <;> omega
    · rw [nth_set_ne h2]
      have e1 : nth w j ≠ (k : Int) := fun e => h2 (by rw [← e]; exact idx_at hp hj)
      have e2 : nth w j ≠ (k : Int) + 1 := fun e => h1 (by rw [← show nth w j = ((k + 1 : Nat) : Int) by omega]; exact idx_at hp hj)
      unfold vs; (repeat' split) <;> omega
/-- The beginnings below k. -/
def begTo (l : List Int) (k : Nat) : List Nat := (List.range k).filter (ldB l)
theorem begTo_yes {l : List Int} {k : Nat} (h : ldB l k = true) : begTo l (k + 1) = begTo l k ++ [k] := by simp [begTo, List.range_succ, List.filter_append, h]
theorem begTo_no {l : List Int} {k : Nat} (h : ldB l k = false) : begTo l (k + 1) = begTo l k := by simp [begTo, List.range_succ, List.filter_append, h]
theorem begTo_len (l : List Int) (k : Nat) : (begTo l k).length ≤ k := Nat.le_trans (List.length_filter_le _ _) (by simp)
def natI (ks : List Nat) : List Int := ks.map fun j : Nat => (j : Int)
/-- Numbers and rests. -/
def MakesB (w : World) (l : List Int) : Ending → World → Prop := fun e w' =>
  ∃ A n c A2 n2 c2 cells, e = .returned (.tuple #[.slice A n c, .slice A2 n2 c2]) ∧ OI w' w.heap.size (.slice A n c) (natI (ldsL l)) ∧ OS w' w.heap.size w.heap.size (.slice A2 n2 c2) ((ldsL l).map fun k => vsw k l) cells ∧ Below w.heap.size w w'
set_option maxRecDepth 100000 in
set_option maxHeartbeats 4000000 in
theorem beg_any {A : Option Addr} {n : Nat} {l : List Int} {w : World} (c : Nat) (hx : RI w A n l) (hp : permB l = true) :
    Calls Try.prog 157 #[.slice A n c] w (MakesB w l) := by
  have HL : Hid (l.length = n) := hx.1
  have HP : Hid (Prm l) := prm_of hp
  have hsz := permB_size hp
  rw [HL.out] at hsz
  have HX := Lib.hid hx
  have HIN : Hid (Calls Try.prog 192 #[.slice A n c] w (Makes w (invB l))) := iInv_any c hx hp
  have hw1 : IntKind.i64.wrap ((n : Int) - 1) = (n : Int) - 1 := IntWalk.i64_in _ (by omega)
  clear hx hp
  go_enter Try.func157, Try.ntmps157
  go_wp2_with (first | (go_at_call 192; refine HIN.out.mono ?_; rintro e w1 ⟨A1, n1, c1, rfl, o1, r1, -, b1⟩) | fail)
  have HS0 : Hid (BegS w ((w1.alloc (.cells #[] 3)).alloc (.cells #[] 22)) (.slice A1 n1 c1) (.slice (some ⟨w1.heap.size, 0, none⟩) 0 0) (.slice (some ⟨w1.heap.size + 1, 0, none⟩) 0 0) l [] [] []) := by
    have hb2 : Below w1.heap.size w1 (w1.alloc (.cells #[] 3)) := (Below.refl _ _).alloc (Nat.le_refl _) _
    have hb3 : Below (w1.alloc (.cells #[] 3)).heap.size (w1.alloc (.cells #[] 3)) ((w1.alloc (.cells #[] 3)).alloc (.cells #[] 22)) := (Below.refl _ _).alloc (Nat.le_refl _) _
    have hb13 := hb2.trans (hb3.mono hb2.size)
    refine ⟨o1.below hb13, OI.below (OI.lit w1 w.heap.size [] 0 rfl b1.size (by simp)) hb3, ?_, fun g e e2 => ?_, fun _ _ u hu => (by cases hu), bnext b1 hb13 b1.size⟩
    · have h := OS.lit (w1.alloc (.cells #[] 3)) w.heap.size w.heap.size [] [] (Nat.le_trans b1.size hb2.size) FRs.nil_ Dist.nil_ (by simp) 0 rfl
      simpa using h
    · simp [Value.ownBlock] at e
      have := (o1.lt g e2).2
      omega
  obtain rfl : n1 = n := by rw [← r1.1, invB_len]; exact HL.out
  obtain ⟨ga, rfl⟩ := OI.gsm HS0.out.a (by omega)
  have HN1 : Hid (natI (begTo l 0) = [] ∧ (begTo l 0).map (fun k => vsw k l) = []) := ⟨rfl, rfl⟩
  clear o1 r1 b1
  go_loopw [5, 6, 7, 15] (fun nv rv _ i wr => ∃ (k : Nat) (B D : Option Addr) (bn bd dn dd : Nat) (cells : List Value), k + 1 ≤ n1 ∧ i = .int .i64 (k : Int) ∧ nv = .slice B bn bd ∧ rv = .slice D dn dd ∧ Hid (BegS w wr (.slice (some ⟨ga, 0, none⟩) n1 c1) (.slice B bn bd) (.slice D dn dd) l (natI (begTo l k)) ((begTo l k).map fun k => vsw k l) cells)) (fun _ _ _ i _ => n1 - (intOf i).toNat)
  case atStart => exact ⟨0, _, _, _, _, _, _, _, by omega, rfl, rfl, rfl, HS0.out⟩
  case round =>
    obtain ⟨k, B, D, bn, bd, dn, dd, cells, hk, rfl, rfl, rfl, HY⟩ := hrel
    by_cases hlt : k + 1 < n1
    · have hltb : (k : Int) < (n1 : Int) - 1 := by omega
      have hk2 : k + 1 < l.length := by rw [HL.out]; exact hlt
      obtain ⟨x, hx⟩ : ∃ x : Nat, x = l.idxOf (k : Int) := ⟨_, rfl⟩
      obtain ⟨y, hy⟩ : ∃ x : Nat, x = l.idxOf ((k + 1 : Nat) : Int) := ⟨_, rfl⟩
      have z0 := HY.out.a.cellAt (j := k) (by omega)
      have z1 := HY.out.a.cellAt (j := k + 1) hlt
      rw [nth_invB (by omega), ← hx] at z0
      rw [nth_invB hk2, ← hy] at z1
      have hld : ldB l k = decide (y < x) := by rw [ldB, nth_invB hk2, nth_invB (by omega), ← hx, ← hy]; exact decide_eq_decide.2 (by omega)
      have ha := idx_lt HP.out (x := (k : Int)) (by omega)
      have hb := idx_lt HP.out (x := ((k + 1 : Nat) : Int)) (by omega)
      rw [← hx] at ha
      rw [← hy] at hb
      have hxy : x ≠ y := fun e => by rw [e, hb.2] at ha; omega
      have HSW : Hid (swapL l x y = vsw k l) := by show _ = _; rw [hx, hy]; exact swapL_vsw HP.out hk2
      rw [HL.out] at ha hb
      have hxn := ha.1
      have hyn := hb.1
      have HXI : Hid ((l.idxOf (k : Int) : Nat) = x) := hx.symm
      have HYI : Hid ((l.idxOf ((k + 1 : Nat) : Int) : Nat) = y) := hy.symm
      clear hx hy ha hb
      have hk0 : (k : Int) < (n1 : Int) := by omega
      have hk1 : (k : Int) + 1 < (n1 : Int) := by omega
      have hk00 : k < n1 := by omega
      have hk10 : (0 : Int) ≤ (k : Int) + 1 := by omega
      have hk01 : (0 : Int) ≤ (k : Int) := by omega
      have hwk : IntKind.i64.wrap ((k : Int) + 1) = (k : Int) + 1 := IntWalk.i64_in _ (by omega)
      rcases hlt2 : decide (y < x) with _ | _
      · have HNO : Hid (begTo l (k + 1) = begTo l k) := begTo_no (hld.trans hlt2)
        have hlt3 : decide ((y : Int) < (x : Int)) = false := decide_eq_false (by have := of_decide_eq_false hlt2; omega)
        clear hld
        go_wp2
        go_region
        go_wp2
        go_roundw
        case rel => exact ⟨k + 1, _, _, _, _, _, _, _, by omega, by go_num, rfl, rfl, by rw [HNO.out]; exact HY.out.below ((Below.refl _ _).drew)⟩
        case measure => simp [intOf]; omega
      · have HYES : Hid (begTo l (k + 1) = begTo l k ++ [k]) := begTo_yes (hld.trans hlt2)
        have HEX : Hid (∀ W, Below w.heap.size w W → Calls Try.prog 99 #[.slice A n1 c, .int .i64 (x : Int), .int .i64 (y : Int)] W (Makes W (vsw k l))) := fun W bW => by
          have h := exchanged_any (w := W) c x y (HX.out.below bW) (by omega) hxn hyn hxy
          rw [HSW.out] at h
          exact h
        have HLE : Hid ((natI (begTo l k)).length + 1 ≤ 1000000000000 ∧ ((begTo l k).map fun k => vsw k l).length + 1 ≤ 1000000000000) := by
          have h1 := begTo_len l k
          show _ ∧ _
          rw [natI, List.length_map, List.length_map]
          omega
        have hlt3 : decide ((y : Int) < (x : Int)) = true := decide_eq_true (by have := of_decide_eq_true hlt2; omega)
        clear hld
        go_wp2_with fail
        go_region
        obtain ⟨w3, e3⟩ : ∃ W, W = wr.drew := ⟨_, rfl⟩
        rw [← e3]
        have S3 : Hid (BegS w w3 (.slice (some ⟨ga, 0, none⟩) n1 c1) (.slice B bn bd) (.slice D dn dd) l (natI (begTo l k)) ((begTo l k).map fun k => vsw k l) cells) := by rw [e3]; exact HY.out.below ((Below.refl _ _).drew)
        clear e3 z0 z1
        go_upto_region 9 with (at_builtin; refine wpApp1 rfl _ _ rfl w.heap.size (.slice B bn bd) (natI (begTo l k)) (k : Int) rfl (by exact S3.out.n) rfl (by exact HLE.out.1) (by exact S3.out.bel.size) ?_; intro v5 w5 o5 g5 k5)
        obtain ⟨B5, bn5, bd5, rfl, -, -, -⟩ := o5.form
        have hnat : natI (begTo l k) ++ [(k : Int)] = natI (begTo l (k + 1)) := by rw [HYES.out, natI, natI, List.map_append]; rfl
        rw [hnat] at o5
        have S5 : Hid (BegS w w5 (.slice (some ⟨ga, 0, none⟩) n1 c1) (.slice B5 bn5 bd5) (.slice D dn dd) l (natI (begTo l (k + 1))) ((begTo l k).map fun k => vsw k l) cells) := S3.out.appN g5 o5 k5
        have HZW : Hid (∀ W, OI W w.heap.size (.slice (some ⟨ga, 0, none⟩) n1 c1) (invB l) → W.cell? ⟨ga, k, none⟩ = some (.int .i64 (x : Int)) ∧ W.cell? ⟨ga, k + 1, none⟩ = some (.int .i64 (y : Int))) := fun W h => by
          have q0 := h.cellAt (j := k) hk00
          have q1 := h.cellAt (j := k + 1) hlt
          rw [nth_invB (by omega), HXI.out] at q0
          rw [nth_invB hk2, HYI.out] at q1
          exact ⟨q0, q1⟩
        have Z5 : Hid (w5.cell? ⟨ga, k, none⟩ = some (.int .i64 (x : Int)) ∧ w5.cell? ⟨ga, k + 1, none⟩ = some (.int .i64 (y : Int))) := HZW.out _ S5.out.a
        have HB5 : Hid (Below w.heap.size w w5) := S5.out.bel
        have HFR := Lib.hid S5.out.r.2.1
        clear o5 g5 k5 hnat
        go_wp2_with fail
        go_region_held3 (fun w' => w'.cell? ⟨ga, k, none⟩ = some (.int .i64 (x : Int)) ∧ w'.cell? ⟨ga, k + 1, none⟩ = some (.int .i64 (y : Int))) (first | exact Z5.out | exact two_cells b6 Z5.out.1 Z5.out.2 | exact two_cells (b6.alloc b6.size _) Z5.out.1 Z5.out.2 | exact Z7.out | fail) (first
          | (go_at_call 99; (with_reducible refine (HEX.out _ ?_).mono ?_); (exact ⟨HB5.out.os, HB5.out.tape, HB5.out.output, HB5.out.size, HB5.out.block⟩); rintro e w6 ⟨A6, n6, c6, rfl, o6, r6, -, b6'⟩; have b6 : Below w5.heap.size w5 w6 := ⟨b6'.os, b6'.tape, b6'.output, b6'.size, b6'.block⟩)
          | (refine stepAppS rfl _ _ rfl w.heap.size w.heap.size (.slice D dn dd) (.slice A6 n6 c6) ((begTo l k).map fun k => vsw k l) cells (vsw k l) rfl rfl (OF.below S5.out.r b6) (OI.mono o6 HB5.out.size) (apart_new (H := w5.heap.size) HFR.out (Nat.le_refl _) o6) HLE.out.2 (Nat.le_trans HB5.out.size b6.size) ?_; intro v7 w7 h1 h2 h3; have S7 := Lib.hid (S5.out.step b6 o6 h1 h2); have Z7 := Lib.hid (HZW.out _ S7.out.a))
          | fail)
        go_wp2_with fail
        obtain ⟨D7, dn7, dd7, rfl, -⟩ := OS.form h1
        go_roundw
        case rel => exact ⟨k + 1, _, _, _, _, _, _, _, by omega, by go_num, rfl, rfl, by
          have h := S7.out
          have e : ((begTo l k).map fun k => vsw k l) ++ [vsw k l] = (begTo l (k + 1)).map fun k => vsw k l := by rw [HYES.out, List.map_append]; rfl
          rw [e] at h
          exact h⟩
        case measure => simp [intOf]; omega
    · have hltb : ¬ (k : Int) < (n1 : Int) - 1 := by omega
      have hlds : Hid (begTo l k = ldsL l) := by show _ = _; rw [begTo, ldsL, HL.out, show n1 - 1 = k by omega]
      go_wp2_with fail
      go_ret2
      have h1 := HY.out.n
      have h2 := HY.out.r
      rw [hlds.out] at h1 h2
      exact ⟨_, _, _, _, _, _, cells, rfl, h1, h2, HY.out.bel⟩
end Go.Proofs.Ytgbojgmmingfdaa

/- allReduced of the program: all reduced words. -/
namespace Go.Proofs.Ytgbojgmmingfdaa
open Go.RowKit

theorem permB_of {w : List Int} (h : Prm w) (h1 : 1 ≤ w.length) (h7 : w.length ≤ 7) : permB w = true := by
  rw [permB_all rfl fun j hj => ?_]
  · exact inB_yes (by omega) (by omega)
  · have hr := h.rng j hj
    refine permAt_yes rfl hr.1 hr.2 ?_
    unfold hasB
    rw [decide_eq_false_iff_not]
    rintro ⟨i, hi, e⟩
    rw [List.length_take] at hi
    rw [nth_take (by omega)] at e
    have := h.inj i j (by omega) hj e
    omega
theorem permB_vsw {w : List Int} (h : permB w = true) {k : Nat} (hk : ldes w k) : permB (vsw k w) = true := by
  have hp := prm_of h
  have hs := permB_size h
  exact permB_of (hp.vsw (ldes_lt hp hk)) (by rw [vsw_len]; exact hs.1) (by rw [vsw_len]; exact hs.2)
theorem OS.lenS {w : World} {base b n c : Nat} {A : Option Addr} {ls : List (List Int)} {cells : List Value} (h : OS w base b (.slice A n c) ls cells) : ls.length = n := by
  obtain ⟨A', n', c', e, h1, -⟩ := OS.form h
  rw [h1, (slice_inj e).2.1]
/-- What holds in the loops of allReduced. -/
structure AllS (w wr : World) (nv rv ov : Value) (ns : List Int) (rs L : List (List Int)) (rcells cells : List Value) : Prop where
  n : OI wr w.heap.size nv ns
  r : OS wr w.heap.size w.heap.size rv rs rcells
  o : OS wr w.heap.size w.heap.size ov L cells
  ro : ∀ g, ov.ownBlock = some g → rv.ownBlock ≠ some g
  bel : Below w.heap.size w wr
section
variable {w w1 w2 : World} {nv rv ov ov' tv u : Value} {ns : List Int} {rs L L' ts : List (List Int)} {rcells cells cells' tcells : List Value}
theorem AllS.below (h : AllS w w1 nv rv ov ns rs L rcells cells) (b : Below w1.heap.size w1 w2) : AllS w w2 nv rv ov ns rs L rcells cells :=
  ⟨h.n.below b, OF.below h.r b, OF.below h.o b, h.ro, h.bel.trans (b.mono h.bel.size)⟩
theorem AllS.app (h : AllS w w1 nv rv ov ns rs L rcells cells) (hg : w1.grownBy w2 ov.ownBlock) (ho : OS w2 w.heap.size w.heap.size ov' L' cells') (hk : ov'.ownBlock = ov.ownBlock ∨ ∀ g, ov'.ownBlock = some g → w1.heap.size ≤ g) : AllS w w2 nv rv ov' ns rs L' rcells cells' := by
  have htr : ∀ g, ov.ownBlock = some g → ∃ cs e m, w1.heap[g]? = some (.cells cs e m) ∧ e ≠ 3 := OF.typed' h.o (by decide)
  refine ⟨h.n.kept_type hg htr, OF.kept h.r hg ?_ htr, ho, fun g e e2 => ?_, h.bel.grown hg h.bel.size fun k hk => (OF.lt h.o k hk).1⟩
  · rcases hr : rv.ownBlock with _ | g
    · exact .inl rfl
    · exact .inr fun e => h.ro g e.symm hr
  · rcases hk with hk | hk
    · rw [hk] at e; exact h.ro g e e2
    · have := hk g e
      have := (OF.lt h.r g e2).2
      omega
/-- The list that is gone through is kept too. -/
theorem AllS.seen {b : Nat} (h : AllS w w1 nv rv ov ns rs L rcells cells) (ht : OS w1 b b tv ts tcells) (hto : ∀ g, ov.ownBlock = some g → tv.ownBlock ≠ some g) (hg : w1.grownBy w2 ov.ownBlock) (hk : ov'.ownBlock = ov.ownBlock ∨ ∀ g, ov'.ownBlock = some g → w1.heap.size ≤ g) : OS w2 b b tv ts tcells ∧ ∀ g, ov'.ownBlock = some g → tv.ownBlock ≠ some g := by
  have htr : ∀ g, ov.ownBlock = some g → ∃ cs e m, w1.heap[g]? = some (.cells cs e m) ∧ e ≠ 3 := OF.typed' h.o (by decide)
  refine ⟨OF.kept ht hg ?_ htr, fun g e e2 => ?_⟩
  · rcases hr : tv.ownBlock with _ | g
    · exact .inl rfl
    · exact .inr fun e => hto g e.symm hr
  · rcases hk with hk | hk
    · rw [hk] at e; exact hto g e e2
    · have := hk g e
      have := (OF.lt ht g e2).2
      omega
end
theorem flatMap_take {α β : Type} {f : α → List β} {l : List α} {k : Nat} (h : k < l.length) : (l.take (k + 1)).flatMap f = (l.take k).flatMap f ++ f l[k] := by
  rw [List.take_succ_eq_append_getElem h, List.flatMap_append]; simp
theorem nth_natI {ks : List Nat} {k : Nat} (h : k < ks.length) : nth (natI ks) k = (ks[k] : Int) := by
  rw [natI, nth_lt (by rw [List.length_map]; exact h), List.getElem_map]
theorem nthL_map {f : Nat → List Int} {ks : List Nat} {k : Nat} (h : k < ks.length) : nthL (ks.map f) k = f ks[k] := by
  rw [nthL_lt (by rw [List.length_map]; exact h), List.getElem_map]
/-- All with the first number k. -/
def headK (f : Nat) (l : List Int) (k : Nat) : List (List Int) := (redI f (vsw k l)).map ((k : Int) :: ·)
theorem flatMap_part {α β : Type} {f : α → List β} {l : List α} {k : Nat} (h : k < l.length) : ((l.take k).flatMap f).length + (f l[k]).length ≤ (l.flatMap f).length := by
  have h1 : l.flatMap f = (l.take (k + 1)).flatMap f ++ (l.drop (k + 1)).flatMap f := by rw [← List.flatMap_append, List.take_append_drop]
  rw [h1, flatMap_take h, List.length_append, List.length_append]
  omega
set_option maxRecDepth 100000 in
set_option maxHeartbeats 4000000 in
theorem allRed_end {w : World} {A : Option Addr} {n : Nat} {l : List Int} (c : Nat) (hx : RI w A n l) (hp : permB l = true) (hz : ldsL l = []) :
    Calls Try.prog 145 #[.slice A n c] w (MakesS w [[]]) := by
  have HBG : Hid (Calls Try.prog 157 #[.slice A n c] w (MakesB w l)) := beg_any c hx hp
  have HZ := Lib.hid hz
  clear hx hp hz
  go_enter Try.func145, Try.ntmps145
  go_upto_region 2 with (first | (go_at_call 157; refine HBG.out.mono ?_; rintro e w1 ⟨A1, n1, c1, A2, n2, c2, rc, rfl, o1, o2, b1⟩) | fail)
  obtain rfl : n1 = 0 := by rw [← o1.ri.1, HZ.out]; rfl
  have G1 := Lib.hid b1
  clear o1 o2 b1
  go_wp2_with fail
  go_ret
  have b2 : Below w1.heap.size w1 (w1.alloc (.cells #[] 3)) := (Below.refl _ _).alloc (Nat.le_refl _) _
  have b3 : Below (w1.alloc (.cells #[] 3)).heap.size (w1.alloc (.cells #[] 3)) ((w1.alloc (.cells #[] 3)).alloc (.cells #[.slice (some ⟨w1.heap.size, 0, none⟩) 0 0] 22)) := (Below.refl _ _).alloc (Nat.le_refl _) _
  have hl : OI (w1.alloc (.cells #[] 3)) w.heap.size (.slice (some ⟨w1.heap.size, 0, none⟩) 0 0) [] := OI.lit w1 w.heap.size [] 0 rfl G1.out.size (by simp)
  have ho := OS.lit (w1.alloc (.cells #[] 3)) w.heap.size w.heap.size [[]] [.slice (some ⟨w1.heap.size, 0, none⟩) 0 0] (Nat.le_trans G1.out.size b2.size) (FRs.one_ (x := .inr []) hl) (Dist.one _) (by simp) 1 rfl
  refine MakesS.of (cells := [.slice (some ⟨w1.heap.size, 0, none⟩) 0 0]) ?_ (bnext G1.out (b2.trans (b3.mono b2.size)) G1.out.size)
  simpa using ho
set_option maxRecDepth 100000 in
set_option maxHeartbeats 4000000 in
theorem allRed_any : ∀ (f : Nat) (w : World) (A : Option Addr) (n c : Nat) (l : List Int), RI w A n l → permB l = true → fin' l ≤ f → (redI f l).length ≤ 1000000 →
    Calls Try.prog 145 #[.slice A n c] w (MakesS w (redI f l)) := by
  intro f
  induction f with
  | zero =>
    intro w A n c l hx hp hf hm
    refine allRed_end c hx hp ?_
    refine (no_lds (prm_of hp)).2 fun k hk => ?_
    have := fin_vsw (prm_of hp) hk
    omega
  | succ f ih =>
    intro w A n c l hx hp hf hm
    by_cases hz : ldsL l = []
    · rw [redI, if_pos hz]
      exact allRed_end c hx hp hz
    have HL : Hid (l.length = n) := hx.1
    have HP : Hid (Prm l) := prm_of hp
    have HPB := Lib.hid hp
    have HX := Lib.hid hx
    have HF := Lib.hid hf
    have IH := Lib.hid ih
    have HRE : Hid (redI (f + 1) l = (ldsL l).flatMap (headK f l)) := by show _ = _; rw [redI, if_neg hz]; rfl
    rw [HRE.out] at hm
    rw [HRE.out]
    have HM := Lib.hid hm
    have HBG : Hid (Calls Try.prog 157 #[.slice A n c] w (MakesB w l)) := beg_any c hx hp
    have hpos : 0 < (ldsL l).length := List.length_pos_iff.2 hz
    have HM7 : Hid ((ldsL l).length ≤ 7) := by
      have h1 := permB_size hp
      have h2 : (ldsL l).length ≤ l.length - 1 := Nat.le_trans (List.length_filter_le _ _) (by simp)
      show _ ≤ _
      omega
    have HPOS := Lib.hid hpos
    clear hx hp ih hf hz hm hpos
    go_enter Try.func145, Try.ntmps145
    go_upto_region 2 with (first | (go_at_call 157; refine HBG.out.mono ?_; rintro e w1 ⟨A1, n1, c1, A2, n2, c2, rc, rfl, o1, o2, b1⟩) | fail)
    have HN1 : Hid ((ldsL l).length = n1) := by show _ = _; rw [← o1.ri.1, natI, List.length_map]
    have HN2 : Hid (n2 = n1) := by show _ = _; rw [← HN1.out, ← OS.lenS o2, List.length_map]
    have hn0 : 0 < n1 := by rw [← HN1.out]; exact HPOS.out
    have hn7 : n1 ≤ 7 := by rw [← HN1.out]; exact HM7.out
    have hne : ((n1 : Int) == 0) = false := by simp; omega
    have S0 : Hid (AllS w (w1.alloc (.cells #[] 22)) (.slice A1 n1 c1) (.slice A2 n2 c2) (.slice (some ⟨w1.heap.size, 0, none⟩) 0 0) (natI (ldsL l)) ((ldsL l).map fun k => vsw k l) [] rc []) := by
      have b2 : Below w1.heap.size w1 (w1.alloc (.cells #[] 22)) := (Below.refl _ _).alloc (Nat.le_refl _) _
      refine ⟨o1.below b2, OF.below o2 b2, ?_, fun g e e2 => ?_, bnext b1 b2 b1.size⟩
      · have h := OS.lit w1 w.heap.size w.heap.size [] [] b1.size FRs.nil_ Dist.nil_ (by simp) 0 rfl
        simpa using h
      · simp [Value.ownBlock] at e
        have := (OF.lt o2 g e2).2
        omega
    clear o1 o2 b1
    go_wp2_with fail
    go_loopw [5, 23] (fun ov iv wr => ∃ (k : Nat) (D : Option Addr) (dn dd : Nat) (cells : List Value), k ≤ n1 ∧ iv = .int .i64 (k : Int) ∧ ov = .slice D dn dd ∧ Hid (AllS w wr (.slice A1 n1 c1) (.slice A2 n2 c2) (.slice D dn dd) (natI (ldsL l)) ((ldsL l).map fun k => vsw k l) (((ldsL l).take k).flatMap (headK f l)) rc cells)) (fun _ iv _ => n1 - (intOf iv).toNat)
    case atStart => exact ⟨0, _, _, _, _, by omega, rfl, rfl, S0.out⟩
    case round =>
      obtain ⟨k, D, dn, dd, cells, hk, rfl, rfl, HY⟩ := hrel
      by_cases hlt : k < n1
      · obtain ⟨wo, rfl⟩ : ∃ wo : World, wo = wr := ⟨_, rfl⟩
        have hkl : k < (ldsL l).length := by rw [HN1.out]; exact hlt
        obtain ⟨j, hj⟩ : ∃ j, j = (ldsL l)[k] := ⟨_, rfl⟩
        have HJ : Hid (j = (ldsL l)[k] ∧ ldes l j) := ⟨hj, by rw [hj]; exact (mem_ldsL HP.out).1 (List.getElem_mem hkl)⟩
        obtain ⟨ad, rfl, z0⟩ := HY.out.n.ri.cell (k := k) hlt
        rw [nth_natI hkl, ← hj] at z0
        obtain ⟨ad2, A3, n3, c3, rfl, z1, -, o3, -⟩ := OS.cell HY.out.r (k := k) (by rw [HN2.out]; exact hlt)
        rw [nthL_map hkl, ← hj] at o3
        have hj6 : j < 7 := by have h1 := ldes_lt HP.out HJ.out.2; have h2 := (permB_size HPB.out).2; omega
        have hkn2 : k < n2 := by rw [HN2.out]; exact hlt
        have hkn3 : (k : Int) < (n2 : Int) := by omega
        have HRC : Hid (Calls Try.prog 145 #[.slice A3 n3 c3] wo (MakesS wo (redI f (vsw j l)))) := by
          refine IH.out wo A3 n3 c3 (vsw j l) o3.ri (permB_vsw HPB.out HJ.out.2) ?_ ?_
          · have h1 := fin_vsw HP.out HJ.out.2
            have h2 := HF.out
            omega
          · have h1 := flatMap_part (f := headK f l) hkl
            rw [← hj] at h1
            have h2 : (headK f l j).length = (redI f (vsw j l)).length := by rw [headK, List.length_map]
            have h3 := HM.out
            omega
        clear hj o3
        go_wp2_with (first | (go_at_call 145; refine HRC.out.mono ?_; rintro e w4 ⟨A4, n4, c4, tc, rfl, o4, l4, -, b4⟩) | fail)
        obtain ⟨ts, hts⟩ : ∃ ts, ts = redI f (vsw j l) := ⟨_, rfl⟩
        rw [← hts] at o4 l4
        have HTS : Hid (ts = redI f (vsw j l) ∧ ts.length ≤ 1000000) := ⟨hts, by
          have h1 := flatMap_part (f := headK f l) hkl
          rw [← HJ.out.1] at h1
          have h2 : (headK f l j).length = (redI f (vsw j l)).length := by rw [headK, List.length_map]
          have h3 := HM.out
          rw [hts]
          omega⟩
        obtain ⟨L0, hL0⟩ : ∃ L0, L0 = ((ldsL l).take k).flatMap (headK f l) := ⟨_, rfl⟩
        have HL0 : Hid (L0 = ((ldsL l).take k).flatMap (headK f l) ∧ L0.length ≤ 1000000) := ⟨hL0, by
          have h1 := flatMap_part (f := headK f l) hkl
          have h3 := HM.out
          rw [hL0]
          omega⟩
        have HY4 : Hid (AllS w w4 (.slice (some ad) n1 c1) (.slice (some ad2) n2 c2) (.slice D dn dd) (natI (ldsL l)) ((ldsL l).map fun k => vsw k l) L0 rc cells ∧ OS w4 wo.heap.size wo.heap.size (.slice A4 n4 c4) ts tc ∧ ∀ g, (Value.slice D dn dd).ownBlock = some g → (Value.slice A4 n4 c4).ownBlock ≠ some g) := by
          refine ⟨by rw [hL0]; exact HY.out.below b4, o4, fun g e e2 => ?_⟩
          have h1 := (OF.lt HY.out.o g e).2
          have h2 := (OF.lt o4 g e2).1
          omega
        have HL4 : Hid (ts.length = n4) := l4
        have hn4 : n4 ≤ 1000000 := by rw [← l4]; exact HTS.out.2
        have HWO : Hid (w.heap.size ≤ wo.heap.size) := HY.out.bel.size
        clear hts hL0 o4 l4 b4
        go_loopw [5, 34] (fun ov iv wr => ∃ (m : Nat) (D : Option Addr) (dn dd : Nat) (cells : List Value), m ≤ n4 ∧ iv = .int .i64 (m : Int) ∧ ov = .slice D dn dd ∧ Hid (AllS w wr (.slice (some ad) n1 c1) (.slice (some ad2) n2 c2) (.slice D dn dd) (natI (ldsL l)) ((ldsL l).map fun k => vsw k l) (L0 ++ (ts.take m).map ((j : Int) :: ·)) rc cells ∧ OS wr wo.heap.size wo.heap.size (.slice A4 n4 c4) ts tc ∧ ∀ g, (Value.slice D dn dd).ownBlock = some g → (Value.slice A4 n4 c4).ownBlock ≠ some g)) (fun _ iv _ => n4 - (intOf iv).toNat)
        case atStart => exact ⟨0, _, _, _, _, by omega, rfl, rfl, by
          have h := HY4.out
          rw [show L0 ++ (ts.take 0).map ((j : Int) :: ·) = L0 by simp]
          exact h⟩
        case round =>
          clear HY4
          obtain ⟨m, D2, dn2, dd2, cells2, hm, rfl, rfl, HZ⟩ := hrel
          by_cases hlt2 : m < n4
          · obtain ⟨ad4, A5, n5, c5, rfl, z2, -, o5, -⟩ := OS.cell HZ.out.2.1 hlt2
            obtain ⟨t, ht⟩ : ∃ t, t = nthL ts m := ⟨_, rfl⟩
            rw [← ht] at o5
            have HT : Hid ((ts.take (m + 1)).map ((j : Int) :: ·) = (ts.take m).map ((j : Int) :: ·) ++ [(j : Int) :: t]) := by show _ = _; rw [map_take_succ (by rw [HL4.out]; exact hlt2), ht]
            have HTL : Hid (n5 ≤ 100000000) := by
              have hmem : t ∈ redI f (vsw j l) := by rw [← HTS.out.1, ht, nthL_lt (by rw [HL4.out]; exact hlt2)]; exact List.getElem_mem _
              have h1 := redI_play (HP.out.vsw (ldes_lt HP.out HJ.out.2)) (by have h1 := fin_vsw HP.out HJ.out.2; have h2 := HF.out; omega) hmem
              have h2 := dnv_21 (l := vsw j l) (by rw [vsw_len]; exact (permB_size HPB.out).2)
              show n5 ≤ _
              rw [← o5.ri.1]
              omega
            have O5 := Lib.hid o5
            have HLIT : Hid (OI (wr.alloc (.cells #[.int .i64 (j : Int)] 3)) wr.heap.size (.slice (some ⟨wr.heap.size, 0, none⟩) 1 1) [(j : Int)]) := by
              have h := OI.lit wr wr.heap.size [(j : Int)] 1 rfl (Nat.le_refl _) (by simp)
              exact h
            have HSZ : Hid (w.heap.size ≤ wr.heap.size) := HZ.out.1.bel.size
            have HLL : Hid ((L0 ++ (ts.take m).map ((j : Int) :: ·)).length + 1 ≤ 1000000000000) := by
              show _ ≤ _
              rw [List.length_append, List.length_map, List.length_take]
              have := HL0.out.2
              omega
            have HFR := Lib.hid HZ.out.1.o.2.1
            clear ht o5
            go_wp2_with (first
              | (at_builtin; refine wpAppI rfl _ _ rfl wr.heap.size (.slice (some ⟨wr.heap.size, 0, none⟩) 1 1) [(j : Int)] t A5 n5 c5 rfl rfl HLIT.out (O5.out.ri.alloc _) (by have := HTL.out; simp; omega) (by simp) ?_; intro v6 w6 o6 g6 k6; obtain ⟨A6, n6, c6, rfl, -⟩ := o6.form; have B6 : Hid (Below wr.heap.size wr w6) := ((Below.refl _ _).alloc (Nat.le_refl _) _).grown g6 (by simp) (by simp [Value.ownBlock]))
              | (at_builtin; refine wpAppS rfl _ _ rfl w.heap.size w.heap.size (.slice D2 dn2 dd2) (L0 ++ (ts.take m).map ((j : Int) :: ·)) cells2 (.slice A6 n6 c6) ([(j : Int)] ++ t) rfl rfl (OF.below HZ.out.1.o B6.out) (OI.mono o6 HSZ.out) (apart_new (H := wr.heap.size) HFR.out (Nat.le_refl _) o6) HLL.out (Nat.le_trans HSZ.out B6.out.size) ?_; intro v7 w7 o7 g7 k7)
              | fail)
            obtain ⟨D7, dn7, dd7, rfl, -⟩ := OS.form o7
            have hb8 : Below wr.heap.size wr (w6.alloc (.cells #[.slice A6 n6 c6] 22)) := B6.out.alloc B6.out.size _
            have hk8 : (Value.slice D7 dn7 dd7).ownBlock = (Value.slice D2 dn2 dd2).ownBlock ∨ ∀ g, (Value.slice D7 dn7 dd7).ownBlock = some g → (w6.alloc (.cells #[.slice A6 n6 c6] 22)).heap.size ≤ g := k7.imp id fun h g e => by rw [h] at e; injection e with e; simp; omega
            have S8 := HZ.out.1.below hb8
            have F7 : Hid (AllS w w7 (.slice (some ad) n1 c1) (.slice (some ad2) n2 c2) (.slice D7 dn7 dd7) (natI (ldsL l)) ((ldsL l).map fun k => vsw k l) (L0 ++ (ts.take (m + 1)).map ((j : Int) :: ·)) rc (cells2 ++ [.slice A6 n6 c6]) ∧ OS w7 wo.heap.size wo.heap.size (.slice (some ad4) n4 c4) ts tc ∧ ∀ g, (Value.slice D7 dn7 dd7).ownBlock = some g → (Value.slice (some ad4) n4 c4).ownBlock ≠ some g) := by
              refine ⟨?_, S8.seen (OF.below HZ.out.2.1 hb8) HZ.out.2.2 g7 hk8⟩
              have h := S8.app g7 o7 hk8
              rw [HT.out, ← List.append_assoc]
              exact h
            clear o6 g6 k6 o7 g7 k7 hb8 hk8 S8
            go_roundw
            case rel => exact ⟨m + 1, _, _, _, _, by omega, by go_num, rfl, F7.out⟩
            case measure => simp [intOf]; omega
          · obtain rfl : m = n4 := by omega
            have HEQ : Hid (L0 ++ (ts.take m).map ((j : Int) :: ·) = ((ldsL l).take (k + 1)).flatMap (headK f l)) := by
              show _ = _
              rw [List.take_of_length_le (by rw [HL4.out]; omega), flatMap_take hkl, ← HJ.out.1, ← HL0.out.1, HTS.out.1]
              rfl
            go_wp2_with fail
            go_roundw
            case rel => exact ⟨k + 1, _, _, _, _, by omega, by go_num, rfl, by rw [← HEQ.out]; exact HZ.out.1⟩
            case measure => simp [intOf]; omega
      · have HEQ : Hid (((ldsL l).take k).flatMap (headK f l) = (ldsL l).flatMap (headK f l)) := by show _ = _; rw [List.take_of_length_le (by rw [HN1.out]; omega)]
        go_wp2_with fail
        go_ret
        rw [← HEQ.out]
        exact MakesS.of HY.out.o HY.out.bel
end Go.Proofs.Ytgbojgmmingfdaa

/- Slices of rows that the call owns: one row is written, or put anew; copies of all rows. -/
namespace Go.Proofs.Ytgbojgmmingfdaa
open Go.RowKit

theorem nthL_setE {ls : List (List Int)} {k : Nat} {x : List Int} (h : k < ls.length) : nthL (ls.set k x) k = x := by simp [nthL, List.getD, h]
theorem nthL_setN {ls : List (List Int)} {k j : Nat} {x : List Int} (h : k ≠ j) : nthL (ls.set k x) j = nthL ls j := by simp [nthL, List.getD, List.getElem?_set_ne h]
theorem rows_setR (ls : List (List Int)) (k : Nat) (x : List Int) : (rows ls).set k (.inr x) = rows (ls.set k x) := by simp [rows, List.map_set]
theorem OS.cellG {w : World} {base b G n c k : Nat} {ls : List (List Int)} {cells : List Value} (h : OS w base b (.slice (some ⟨G, 0, none⟩) n c) ls cells) (hk : k < n) :
    ∃ A' n' c', w.cell? ⟨G, k, none⟩ = some (.slice A' n' c') ∧ cells[k]? = some (.slice A' n' c') ∧ OI w b (.slice A' n' c') (nthL ls k) ∧ n' ≤ c' := by
  obtain ⟨ad, A', n', c', hA, h1, h2, h3, h4⟩ := OS.cell h hk
  have hl := OS.lenS h
  have ho := h.1
  unfold OS OF at h
  rw [hl] at ho
  have h5 := ho.cellAt k (by omega)
  exact ⟨A', n', c', h5.trans h2, h2, h3, h4⟩
theorem OS.frozenG {w : World} {base b G n c : Nat} {ls : List (List Int)} {cells : List Value} (h : OS w base b (.slice (some ⟨G, 0, none⟩) n c) ls cells) (k : Nat) : w.frozen? ⟨G, k, none⟩ = false := by
  have ho := h.1
  rw [OS.lenS h] at ho
  exact ho.frozenAt k
/-- A row has turned, in its own block. -/
theorem OS.rowTurn {w w1 : World} {base b r : Nat} {v u : Value} {ls : List (List Int)} {cells : List Value} {l' : List Int} (h : OS w base b v ls cells) (hr : r < ls.length) (hu : cells[r]? = some u) (hg : w.grownBy w1 u.ownBlock) (ho : OI w1 b u l') :
    OS w1 base b v (ls.set r l') cells := by
  have hcl : cells.length = ls.length := by rw [h.2.1.1, rows_len]
  have hU : OI w b u (nthL ls r) := h.2.1.2 r _ u (rows_at hr) hu
  have hne : v.ownBlock = none ∨ v.ownBlock ≠ u.ownBlock := by
    rcases hv : v.ownBlock with _ | g
    · exact .inl rfl
    · refine .inr fun e => ?_
      obtain ⟨cs, m, h1⟩ := OF.typed h g hv
      obtain ⟨cs2, m2, h2⟩ := OI.typed hU g e.symm
      rw [h1] at h2
      injection h2 with h2
      injection h2 with _ h3
      exact absurd h3 (by decide)
  refine ⟨?_, ⟨by rw [← rows_setR, List.length_set]; exact h.2.1.1, fun j x u2 hx hu2 => ?_⟩, h.2.2⟩
  · rw [List.length_set]
    exact World.ownsRow.kept h.1 hg hne
  · by_cases hj : r = j
    · subst hj
      have e1 : (rows (ls.set r l'))[r]? = some (.inr l') := by rw [← rows_setR]; exact List.getElem?_set_self (by rw [rows_len]; exact hr)
      rw [e1] at hx
      injection hx with hx
      rw [hu] at hu2
      injection hu2 with hu2
      subst hx hu2
      exact ho
    · rw [← rows_setR, List.getElem?_set_ne hj] at hx
      have hf := h.2.1.2 j x u2 hx hu2
      cases x with
      | inl y => exact hf
      | inr l =>
        refine OI.kept (w := w) hf hg ?_
        rcases Nat.lt_or_ge j r with hlt | hge
        · exact h.2.2 j r u2 u hlt hu2 hu
        · rcases h.2.2 r j u u2 (by omega) hu hu2 with h3 | h3
          · rw [h3]
            rcases u2.ownBlock with _ | g
            · exact .inl rfl
            · exact .inr (by simp)
          · exact .inr (Ne.symm h3)
/-- A row is put anew, behind an append to it. -/
theorem OS.rowPut {w w1 : World} {base b G n c r : Nat} {u u' : Value} {ls : List (List Int)} {cells : List Value} {l' : List Int} (h : OS w base b (.slice (some ⟨G, 0, none⟩) n c) ls cells) (hr : r < ls.length) (hu : cells[r]? = some u) (hg : w.grownBy w1 u.ownBlock) (ho : OI w1 b u' l')
    (hk : u'.ownBlock = u.ownBlock ∨ ∀ k, u'.ownBlock = some k → w.heap.size ≤ k) :
    OS (w1.setCell ⟨G, r, none⟩ u') base b (.slice (some ⟨G, 0, none⟩) n c) (ls.set r l') (cells.set r u') ∧ w1.grownBy (w1.setCell ⟨G, r, none⟩ u') (some G) := by
  have hcl : cells.length = ls.length := by rw [h.2.1.1, rows_len]
  have hU : OI w b u (nthL ls r) := h.2.1.2 r _ u (rows_at hr) hu
  obtain ⟨csG, mG, htG⟩ := OF.typed h G rfl
  have hne : (Value.slice (some ⟨G, 0, none⟩) n c).ownBlock = none ∨ (Value.slice (some ⟨G, 0, none⟩) n c).ownBlock ≠ u.ownBlock := by
    refine .inr fun e => ?_
    obtain ⟨cs2, m2, h2⟩ := OI.typed hU G e.symm
    rw [htG] at h2
    injection h2 with h2
    injection h2 with _ h3
    exact absurd h3 (by decide)
  have h1 := World.ownsRow.kept h.1 hg hne
  have hln := OS.lenS h
  rw [hln] at h1
  obtain ⟨s1, s2⟩ := h1.stored r u'
  have htG1 : ∃ cs m, w1.heap[G]? = some (.cells cs 22 m) := by
    have hb := hg.block G (by have := OF.lt h G rfl; omega) (fun e => by
      rcases hne with h2 | h2
      · simp [Value.ownBlock] at h2
      · exact h2 e)
    exact ⟨_, _, hb.trans htG⟩
  have htr : ∀ g, some G = some g → ∃ cs e m, w1.heap[g]? = some (.cells cs e m) ∧ e ≠ 3 := fun g e => by
    injection e with e
    subst e
    obtain ⟨cs, m, hh⟩ := htG1
    exact ⟨cs, _, m, hh, by decide⟩
  refine ⟨⟨?_, ⟨by rw [← rows_setR, List.length_set, List.length_set]; exact h.2.1.1, fun j x u2 hx hu2 => ?_⟩, fun i j a a' hij ha ha' => ?_⟩, s2⟩
  · rw [List.length_set, hln]
    exact s1
  · by_cases hj : r = j
    · subst hj
      have e1 : (rows (ls.set r l'))[r]? = some (.inr l') := by rw [← rows_setR]; exact List.getElem?_set_self (by rw [rows_len]; exact hr)
      rw [e1] at hx
      injection hx with hx
      rw [List.getElem?_set_self (by omega)] at hu2
      injection hu2 with hu2
      subst hx hu2
      exact OI.kept_type ho s2 htr
    · rw [← rows_setR, List.getElem?_set_ne hj] at hx
      rw [List.getElem?_set_ne hj] at hu2
      have hf := h.2.1.2 j x u2 hx hu2
      cases x with
      | inl y => exact hf
      | inr l =>
        refine OI.kept_type (w := w1) (OI.kept (w := w) hf hg ?_) s2 htr
        rcases Nat.lt_or_ge j r with hlt | hge
        · exact h.2.2 j r u2 u hlt hu2 hu
        · rcases h.2.2 r j u u2 (by omega) hu hu2 with h3 | h3
          · rw [h3]
            rcases u2.ownBlock with _ | g
            · exact .inl rfl
            · exact .inr (by simp)
          · exact .inr (Ne.symm h3)
  · have old : ∀ {q : Nat} {y : Value}, cells[q]? = some y → ∀ k, y.ownBlock = some k → k < w.heap.size := fun hq k hk2 => (h.2.1.ltD (List.mem_of_getElem? hq) k hk2).2
    by_cases hi : r = i
    · subst hi
      rw [List.getElem?_set_self (by omega)] at ha
      injection ha with ha
      subst ha
      rw [List.getElem?_set_ne (by omega)] at ha'
      rcases hk with hk | hk
      · rw [hk]; exact h.2.2 r j u a' hij hu ha'
      · rcases hq : u'.ownBlock with _ | g
        · exact .inl rfl
        · refine .inr fun e => ?_
          have := hk g hq
          have := old ha' g e.symm
          omega
    · rw [List.getElem?_set_ne hi] at ha
      by_cases hj : r = j
      · subst hj
        rw [List.getElem?_set_self (by omega)] at ha'
        injection ha' with ha'
        subst ha'
        rcases hk with hk | hk
        · rw [hk]; exact h.2.2 i r a u hij ha hu
        · rcases hq : a.ownBlock with _ | g
          · exact .inl rfl
          · refine .inr fun e => ?_
            have := hk g e.symm
            have := old ha g hq
            omega
      · rw [List.getElem?_set_ne hj] at ha'
        exact h.2.2 i j a a' hij ha ha'
set_option maxRecDepth 100000 in
set_option maxHeartbeats 1000000 in
theorem copyRows_any {A : Option Addr} {n : Nat} {ls : List (List Int)} {w : World} (c : Nat) (hx : RS w A n ls) (hn : n ≤ 1000000) (hs : ∀ k, k < n → (nthL ls k).length ≤ 1000000) :
    Calls Try.prog 111 #[.slice A n c] w (MakesS w ls) := by
  have HX := Lib.hid hx
  have HSS := Lib.hid hs
  have HL : Hid (ls.length = n) := hx.1
  have HLIT : Hid (OS (w.alloc (.cells #[] 22)) w.heap.size w.heap.size (.slice (some ⟨w.heap.size, 0, none⟩) 0 0) [] [] ∧ Below w.heap.size w (w.alloc (.cells #[] 22))) := by
    refine ⟨?_, (Below.refl _ _).alloc (Nat.le_refl _) _⟩
    have h := OS.lit w w.heap.size w.heap.size [] [] (Nat.le_refl _) FRs.nil_ Dist.nil_ (by simp) 0 rfl
    simpa using h
  clear hx hs
  go_enter Try.func111, Try.ntmps111
  go_wp2_with fail
  go_loopw [3, 5, 9] (fun ov _ i wr => ∃ (k : Nat) (D : Option Addr) (dn dd : Nat) (cells : List Value), k ≤ n ∧ i = .int .i64 (k : Int) ∧ ov = .slice D dn dd ∧ Hid (OS wr w.heap.size w.heap.size (.slice D dn dd) (ls.take k) cells ∧ Below w.heap.size w wr)) (fun _ _ i _ => n - (intOf i).toNat)
  case atStart => exact ⟨0, _, _, _, _, Nat.zero_le _, rfl, rfl, by rw [List.take_zero]; exact HLIT.out⟩
  case round =>
    obtain ⟨k, D, dn, dd, cells, hk, rfl, rfl, HY⟩ := hrel
    by_cases hlt : k < n
    · obtain ⟨ad, A', n', c', rfl, z0, r0, -⟩ := (HX.out.below HY.out.2).2 k hlt
      obtain ⟨l0, hl0⟩ : ∃ x, x = nthL ls k := ⟨_, rfl⟩
      have hlen := HSS.out k hlt
      rw [← hl0] at r0 hlen
      have HT : Hid (ls.take (k + 1) = ls.take k ++ [l0]) := by show _ = _; rw [hl0, nthL_lt (by rw [HL.out]; exact hlt), List.take_succ_eq_append_getElem]
      have HCL : Hid (Calls Try.prog 134 #[.slice A' n' c'] wr (Makes wr l0)) := clone_any c' r0 (by rw [← r0.1]; omega)
      have HLE : Hid ((ls.take k).length + 1 ≤ 1000000000000) := by show _ ≤ _; rw [List.length_take]; omega
      have HSZ : Hid (w.heap.size ≤ wr.heap.size) := HY.out.2.size
      have HFR := Lib.hid HY.out.1.2.1
      clear hl0 hlen r0
      go_wp2_with (first
        | (go_at_call 134; refine HCL.out.mono ?_; rintro e w4 ⟨A4, n4, c4, rfl, o4, r4, -, b4⟩)
        | (at_builtin; refine wpAppS rfl _ _ rfl w.heap.size w.heap.size (.slice D dn dd) (ls.take k) cells (.slice A4 n4 c4) l0 rfl rfl (OF.below HY.out.1 b4) (OI.mono o4 HSZ.out) (apart_new (H := wr.heap.size) HFR.out (Nat.le_refl _) o4) HLE.out (Nat.le_trans HSZ.out b4.size) ?_; intro v7 w7 o7 g7 k7)
        | fail)
      obtain ⟨D7, dn7, dd7, rfl, -⟩ := OS.form o7
      have HF : Hid (OS w7 w.heap.size w.heap.size (.slice D7 dn7 dd7) (ls.take (k + 1)) (cells ++ [.slice A4 n4 c4]) ∧ Below w.heap.size w w7) := by
        refine ⟨by rw [HT.out]; exact o7, ?_⟩
        have hb := (HY.out.2.trans (b4.mono HSZ.out)).alloc (Nat.le_trans HSZ.out b4.size) (.cells #[.slice A4 n4 c4] 22)
        exact hb.grown g7 hb.size fun k hk => (OF.lt HY.out.1 k hk).1
      clear o4 r4 b4 o7 g7 k7
      go_roundw
      case rel => exact ⟨k + 1, _, _, _, _, by omega, by go_num, rfl, HF.out⟩
      case measure => simp [intOf]; omega
    · obtain rfl : k = n := by omega
      go_wp2_with fail
      go_ret
      have e : ls.take k = ls := List.take_of_length_le (by rw [HL.out]; omega)
      have h1 := HY.out.1
      rw [e] at h1
      exact MakesS.of h1 HY.out.2
end Go.Proofs.Ytgbojgmmingfdaa
