/- Slices of terms: append, cells, what they read as. -/
import Derived.Test.YtgbojgmmingfdaaPolyOk
import Derived.Test.YtgbojgmmingfdaaWords
import Derived.Test.YtgbojgmmingfdaaPolyA
import Derived.Test.YtgbojgmmingfdaaDraw
namespace Go.Proofs.Ytgbojgmmingfdaa
open Go.RowKit

theorem tF_part (ps : List (List Int × Int)) : tF ps = partF ps := List.flatMap_def.symm
theorem tF_append (a b : List (List Int × Int)) : tF (a ++ b) = tF a ++ tF b := by simp [tF]
theorem tF_at0 {ps : List (List Int × Int)} {k : Nat} (h : k < ps.length) : (tF ps)[k * 2]? = some (.inr (nthP ps k).1) := by rw [tF_part]; exact partF_at0 h
theorem tF_at1 {ps : List (List Int × Int)} {k : Nat} (h : k < ps.length) : (tF ps)[k * 2 + 1]? = some (.inl (nthP ps k).2) := by rw [tF_part]; exact partF_at1 h
theorem Try.infoTerm : (Try.prog.info? 81).map (fun i => (i.zero, i.size, i.bytes)) = some (some (.agg #[.slice none 0 0, .int .i64 0]), 2, 32) := by kernel_rfl
/-- 'append(out, Term{u, y})': at whatever world in which the part lies in a new block. -/
theorem run_appT {w0 : World} {base b : Nat} {v u : Value} {ps : List (List Int × Int)} {cells : List Value} {l : List Int} {y : Int} (ty : TypeId) (hown : OT w0 base b v ps cells) (hu : OI w0 b u l)
    (hap : ∀ u' ∈ cells, u'.ownBlock = none ∨ u'.ownBlock ≠ u.ownBlock) (hlen : ps.length + 1 ≤ 1000000000000) (hbase : base ≤ w0.heap.size) :
    ∃ v' w', (Builtin.append_ #[23, 23] ty #[v, .slice (some ⟨w0.heap.size, 0, none⟩) 1 1]).run Try.prog (w0.alloc (.cells #[u, .int .i64 y] 81)) = .ok v' w' ∧
      OT w' base b v' (ps ++ [(l, y)]) (cells ++ [u, .int .i64 y]) ∧ (w0.alloc (.cells #[u, .int .i64 y] 81)).grownBy w' v.ownBlock ∧ (v'.ownBlock = v.ownBlock ∨ v'.ownBlock = some (w0.heap.size + 1)) := by
  obtain ⟨v', w', hr, h2, h3, h5⟩ := run_appF (P := Try.prog) (w := w0.alloc (.cells #[u, .int .i64 y] 81)) (base := base) (b := b) (t := 23) (e := 81) (size := 2) (bytes := 32) (z := .agg #[.slice none 0 0, .int .i64 0]) (v := v)
    (n := ps.length) (fs := tF ps) (fs2 := [.inr l, .inl y]) (cells := cells) (news := [u, .int .i64 y]) ty Try.underlying23 Try.infoTerm rfl (by omega) (by omega) (by decide) (OF.alloc hown _) ⟨w0.heap.size, 0, none⟩ 1 rfl
    (new_cells w0 [u, .int .i64 y] _) (FRs.two (OI.alloc hu _)) (Dist.two _ _) (fun a ha a' ha' => by
      simp at ha'
      rcases ha' with rfl | rfl
      · exact hap a ha
      · rcases h : a.ownBlock with _ | k
        · exact .inl rfl
        · exact .inr (by simp [Value.ownBlock])) hlen (by simp; omega)
  refine ⟨v', w', hr, ?_, h3, by simpa using h5⟩
  unfold OT
  rw [tF_append, List.length_append]
  exact h2

theorem wpAppT {w0 : World} {ops : Array Oper} {rest : List Oper} {o : Oper} {a : Act} {Q : Exit → Act → World → Prop} (hgd : o.guard = none) (s x : Operand)
    (ho : o.op = .call { callee := .builtin .append, args := #[s, x], argTypes := #[23, 23] })
    (base b : Nat) (v u : Value) (ps : List (List Int × Int)) (cells : List Value) (l : List Int) (y : Int) (hs : a.eval s = v) (hx : a.eval x = .slice (some ⟨w0.heap.size, 0, none⟩) 1 1)
    (hown : OT w0 base b v ps cells) (hu : OI w0 b u l) (hap : ∀ u' ∈ cells, u'.ownBlock = none ∨ u'.ownBlock ≠ u.ownBlock) (hlen : ps.length + 1 ≤ 1000000000000) (hbase : base ≤ w0.heap.size)
    (h : ∀ v' w', OT w' base b v' (ps ++ [(l, y)]) (cells ++ [u, .int .i64 y]) → (w0.alloc (.cells #[u, .int .i64 y] 81)).grownBy w' v.ownBlock → (v'.ownBlock = v.ownBlock ∨ v'.ownBlock = some (w0.heap.size + 1)) → wpList Try.prog ops Q rest (a.put o.dst v') w') :
    wpList Try.prog ops Q (o :: rest) a (w0.alloc (.cells #[u, .int .i64 y] 81)) := by
  refine wpList_plain hgd fun K hK => ?_
  obtain ⟨v', w', hr, h2, h3, h5⟩ := run_appT (y := y) o.type hown hu hap hlen hbase
  unfold Oper.wp execOp
  simp only [ho, resolve, invoke, builtin, Sem.run_bind, Sem.run_pure, Result.andThen_ok, List.map_toArray, List.map_cons, List.map_nil, hs, hx, hr]
  exact hK _ _ (h v' w' h2 h3 h5)

/-- The same at a region that draws its order. -/
theorem stepAppT {w0 : World} {ops : Array Oper} {o : Oper} {a : Act} {K : Act → World → Prop} {Q : Exit → Act → World → Prop} {E : Prop} (hgd : o.guard = none) (s x : Operand)
    (ho : o.op = .call { callee := .builtin .append, args := #[s, x], argTypes := #[23, 23] })
    (base b : Nat) (v u : Value) (ps : List (List Int × Int)) (cells : List Value) (l : List Int) (y : Int) (hs : a.eval s = v) (hx : a.eval x = .slice (some ⟨w0.heap.size, 0, none⟩) 1 1)
    (hown : OT w0 base b v ps cells) (hu : OI w0 b u l) (hap : ∀ u' ∈ cells, u'.ownBlock = none ∨ u'.ownBlock ≠ u.ownBlock) (hlen : ps.length + 1 ≤ 1000000000000) (hbase : base ≤ w0.heap.size)
    (h : ∀ v' w', OT w' base b v' (ps ++ [(l, y)]) (cells ++ [u, .int .i64 y]) → (w0.alloc (.cells #[u, .int .i64 y] 81)).grownBy w' v.ownBlock → (v'.ownBlock = v.ownBlock ∨ v'.ownBlock = some (w0.heap.size + 1)) → K (a.put o.dst v') w') :
    if Region.wanted o (yielded ops a.tmps) = true then Oper.wp Try.prog o a (w0.alloc (.cells #[u, .int .i64 y] 81)) K Q else E := by
  have hw : Region.wanted o (yielded ops a.tmps) = true := by simp [Region.wanted, hgd]
  rw [if_pos hw]
  obtain ⟨v', w', hr, h2, h3, h5⟩ := run_appT (y := y) o.type hown hu hap hlen hbase
  unfold Oper.wp execOp
  simp only [ho, resolve, invoke, builtin, Sem.run_bind, Sem.run_pure, Result.andThen_ok, List.map_toArray, List.map_cons, List.map_nil, hs, hx, hr]
  exact h v' w' h2 h3 h5

theorem OT.cell {w : World} {base b g n c k : Nat} {ps : List (List Int × Int)} {cells : List Value} (h : OT w base b (.slice (some ⟨g, 0, none⟩) n c) ps cells) (hk : k < ps.length) :
    ∃ A' n' c', w.cell? ⟨g, k * 2, none⟩ = some (.slice A' n' c') ∧ cells[k * 2]? = some (.slice A' n' c') ∧ OI w b (.slice A' n' c') (nthP ps k).1 ∧ n' ≤ c' ∧ w.cell? ⟨g, k * 2 + 1, none⟩ = some (.int .i64 (nthP ps k).2) := by
  have hn : n = ps.length := by
    obtain ⟨A, c', hv, _⟩ := OF.form h
    injection hv
  subst hn
  obtain ⟨u, hu, hf⟩ := h.2.1.at_ (tF_at0 hk)
  have hf' : OI w b u (nthP ps k).1 := hf
  obtain ⟨A', n', c', rfl, _, hcc, _⟩ := hf'.form
  obtain ⟨u', hu', hf2⟩ := h.2.1.at_ (tF_at1 hk)
  have hf2' : u' = .int .i64 (nthP ps k).2 := hf2
  subst hf2'
  exact ⟨A', n', c', by rw [OF.cellF h (by omega), hu], hu, hf', hcc, by rw [OF.cellF h (by omega), hu']⟩

theorem OT.rt {w : World} {base b n c : Nat} {A : Option Addr} {ps : List (List Int × Int)} {cells : List Value} (h : OT w base b (.slice A n c) ps cells) : RTm w A n ps := by
  have hn : ps.length = n := by
    obtain ⟨A', c', hv, -⟩ := OF.form h
    exact (slice_inj hv).2.1.symm
  refine ⟨hn, fun k hk => ?_⟩
  obtain ⟨G, cc, hG, -⟩ := OF.shape h (by rw [hn]; omega)
  obtain ⟨rfl, -, -⟩ := slice_inj hG
  obtain ⟨A1, n1, c1, x1, -, x2, x3, x4⟩ := OT.cell h (k := k) (by rw [hn]; exact hk)
  refine ⟨_, rfl, A1, n1, c1, ?_, ?_, x2.ri, ?_⟩
  · rw [show (⟨G, 0, none⟩ : Addr).add (k * 2) = ⟨G, k * 2, none⟩ by unfold Addr.add; split <;> simp_all]; exact x1
  · rw [show (⟨G, 0, none⟩ : Addr).add (k * 2 + 1) = ⟨G, k * 2 + 1, none⟩ by unfold Addr.add; split <;> simp_all]; exact x4
  · have := x2.le.1; have := x2.le.2; omega
end Go.Proofs.Ytgbojgmmingfdaa

/- closed: the sorted terms of a polynomial, if they may stand. -/
namespace Go.Proofs.Ytgbojgmmingfdaa
open Go.RowKit Go.Maps Go.MapKept Go.WideMaps

/-- What closed gives back. -/
def ClosedT (w : World) (acc : List (List Int × Int)) : Ending → World → Prop := fun e w' => Below w.heap.size w w' ∧
  ((600 < acc.length ∧ e = .returned (.tuple #[.slice none 0 0, .bool false])) ∨
   (acc.length ≤ 600 ∧ ∃ ps, ps.Perm acc ∧ ps.Pairwise (fun x y => ¬ byT y.1 x.1 < 0) ∧
     ((polyB ps = false ∧ e = .returned (.tuple #[.slice none 0 0, .bool false])) ∨ (polyB ps = true ∧ ∃ v cells, e = .returned (.tuple #[v, .bool true]) ∧ OT w' w.heap.size w.heap.size v ps cells))))

theorem OT.lit (w : World) (base b : Nat) (hb : base ≤ w.heap.size) : OT (w.alloc (.cells #[] 81)) base b (.slice (some ⟨w.heap.size, 0, none⟩) 0 0) [] [] := by
  have := World.ownsRow_lit (e := 81) (size := 2) (base := base) w #[] 0 hb (by simp only [maxLen]; omega) (by simp)
  exact ⟨by simpa using this, FRs.nil_, Dist.nil_⟩
theorem OT.kept_it {w w' : World} {base b g : Nat} {v : Value} {ps : List (List Int × Int)} {cells : List Value} (h : OT w base b v ps cells) (hg : w.grownBy w' (some g)) (hne : v.ownBlock ≠ some g) (hgb : g < b) : OT w' base b v ps cells :=
  ⟨World.ownsRow.kept h.1 hg (.inr hne), ⟨h.2.1.1, fun j x u h1 h2 => (h.2.1.2 j x u h1 h2).kept_low hg fun g' e => by cases e; exact hgb⟩, h.2.2⟩
theorem PR.below {H : Type} {w w' : World} {b r n cnt : Nat} {acc L : List (List Int × Int)} (h : PR H w b r n acc L cnt) (hb : Below w.heap.size w w') : PR H w' b r n acc L cnt :=
  h.kept (row := none) ⟨hb.os, hb.tape, hb.output, hb.size, fun i hi _ => hb.block i hi⟩ (by simp) (by simp)
theorem PR.len {H : Type} {w : World} {b r n cnt : Nat} {acc L : List (List Int × Int)} (h : PR H w b r n acc L cnt) : L.length ≤ acc.length := by
  obtain ⟨-, -, -, -, hm, -⟩ := h
  have n1 : L.Nodup := List.Pairwise.of_map Prod.fst (fun a b (hab : a.1 ≠ b.1) e => hab (by rw [e])) hm.2
  exact n1.length_le_of_subset fun x hx => (hm.1 x hx).2
set_option maxRecDepth 100000 in
set_option maxHeartbeats 1000000 in
theorem closed_any {H : Type} {w : World} {b n : Nat} {acc : List (List Int × Int)} (h : PM H w b n acc) (hg : GoodP acc) (hb : ∀ x ∈ acc, Ex7B x.1) :
    Calls Try.prog 66 #[.map (some b)] w (ClosedT w acc) := by
  have hh := Lib.hid h
  obtain ⟨D, ho, hp, hs⟩ := h
  have hsz := PM.size ho hp hg
  go_enter Try.func66, Try.ntmps66
  by_cases hbig : 600 < acc.length
  · have hbig' : decide ((600 : Int) < ((Maps.size D : Nat) : Int)) = true := decide_eq_true (by rw [hsz]; omega)
    go_wp2_with (first | (at_len; refine wpList_len_own _ rfl _ TM rfl 76 3 Try.underlying73 _ b n D rfl ho ?_) | fail)
    go_ret2
    exact ⟨Below.refl _ _, .inl ⟨hbig, rfl⟩⟩
  have hbig' : decide ((600 : Int) < ((Maps.size D : Nat) : Int)) = false := decide_eq_false (by rw [hsz]; omega)
  obtain ⟨w1, e1⟩ : ∃ W, W = w.alloc (.cells #[] 81) := ⟨_, rfl⟩
  have hp1 : Hid (PM H w1 b n acc) := by rw [e1]; exact hh.out.alloc _
  have hot : Hid (OT w1 w.heap.size w.heap.size (.slice (some ⟨w.heap.size, 0, none⟩) 0 0) [] []) := by rw [e1]; exact OT.lit w _ _ (Nat.le_refl _)
  have hb1 : Hid (Below w.heap.size w w1) := by rw [e1]; exact (Below.refl _ _).alloc (Nat.le_refl _) _
  have hs1 : Hid (w1.heap.size = w.heap.size + 1) := by show _ = _; rw [e1]; simp
  have E1 := Lib.hid e1
  clear e1
  go_wp2_with (first | (at_len; refine wpList_len_own _ rfl _ TM rfl 76 3 Try.underlying73 _ b n D rfl ho ?_) | (rw [← E1.out]; at_range; refine wpList_range_poly _ rfl _ rfl b n acc rfl hp1.out hg ?_; intro w2 hpr g2 s2) | fail)
  have HP2 := Lib.hid hpr
  have b12 : Below w1.heap.size w1 w2 := ⟨g2.os, g2.tape, g2.output, g2.size, fun i hi => g2.block i hi (by simp)⟩
  have HB2 : Hid (Below w.heap.size w w2) := bnext hb1.out b12 hb1.out.size
  have HO2 : Hid (OT w2 w.heap.size w2.heap.size (.slice (some ⟨w.heap.size, 0, none⟩) 0 0) [] []) := ⟨(OF.below hot.out b12).1, FRs.nil_, Dist.nil_⟩
  clear b12
  clear hpr g2
  go_frame
  go_loopw [4, 5, 6, 13, 14] (fun u _ _ _ _ wr => ∃ (L : List (List Int × Int)) (cnt : Nat) (cs : List Value), PR H wr b w1.heap.size n acc L cnt ∧ OT wr w.heap.size w2.heap.size u L cs ∧ Below w.heap.size w wr ∧ u.ownBlock ≠ some w1.heap.size ∧ w2.heap.size ≤ wr.heap.size) (fun _ _ _ _ _ wr => wr.rangeLeft b w1.heap.size)
  case atStart => exact ⟨[], _, [], HP2.out, HO2.out, HB2.out, by have := hs1.out; simp [Value.ownBlock]; omega, Nat.le_refl _⟩
  case round =>
    obtain ⟨L, cnt, cs, hpr, hot, hbl, hne, hsz2⟩ := hrel
    have HNE := Lib.hid hne
    have HS2 := Lib.hid hsz2
    clear hne hsz2
    obtain ⟨A, c, rfl, -, -, -, -, -, -⟩ := OF.form hot
    have HPR := Lib.hid hpr
    have HOT := Lib.hid hot
    have HBL := Lib.hid hbl
    clear hpr hot hbl
    go_wp2_with (first | (at_next; refine wpList_next_poly _ rfl _ rfl b w1.heap.size n acc L cnt rfl HPR.out hg ?_ ?_) | fail)
    · intro h0 hperm
      have HP := Lib.hid hperm
      have hll : Hid (L.length ≤ 600) := by show _ ≤ _; rw [hperm.length_eq]; omega
      have hqb : Hid (∀ x ∈ L, Ex7B x.1) := fun x hx => hb x (hperm.mem_iff.1 hx)
      clear hperm
      go_wp2_with (first | (go_at_call 135; refine (sortT_any hqb.out HOT.out (by have := hll.out; omega)).mono ?_; rintro e w4 ⟨rfl, ps, cells4, p1, p2, o4, g4⟩) | (go_at_call 106; refine (iPolyOk_any _ (OT.rt o4) (by have := hll.out; omega)).mono ?_; rintro e w5 ⟨rfl, b5⟩) | fail)
      all_goals
        have b4 : Below w.heap.size wr w4 := ⟨g4.os, g4.tape, g4.output, g4.size, fun i hi => g4.block i (by have := HBL.out.size; omega) (fun e => by have := (OF.lt HOT.out i e.symm).1; omega)⟩
        have b04 : Below w.heap.size w w4 := HBL.out.trans b4
        have b05 : Below w.heap.size w w5 := bnext b04 b5 b04.size
        rename_i hpol
        go_ret2
      · exact ⟨b05, .inr ⟨by omega, ps, p1.trans HP.out, p2.imp (fun h => by omega), .inl ⟨by simpa using hpol, rfl⟩⟩⟩
      · exact ⟨b05, .inr ⟨by omega, ps, p1.trans HP.out, p2.imp (fun h => by omega), .inr ⟨by simpa using hpol, _, cells4, rfl, OF.mono (OF.below o4 b5) (Nat.le_refl _) (by have := HB2.out.size; exact this)⟩⟩⟩
    · intro e z w3 cnt' hec hpr3 hlt g3 s3 hen
      have hE7 := (hg.2 _ hec).1
      obtain ⟨e0, e1, e2, e3, e4, e5, e6, rfl⟩ := hE7.seven
      have hen' : (Instr.entry (.pointer (some ⟨w1.heap.size, 0, none⟩))).run Try.prog w3 = .ok (.tuple #[.agg #[.int .i64 e0, .int .i64 e1, .int .i64 e2, .int .i64 e3, .int .i64 e4, .int .i64 e5, .int .i64 e6], .int .i64 z]) w3 := hen
      have HX := Lib.hid (⟨hec, hpr3, hlt, g3, s3⟩ : _ ∧ _ ∧ _ ∧ _ ∧ _)
      clear hec hpr3 hlt g3 s3 hen hE7
      go_wp2_with fail
      obtain ⟨w4, ee4⟩ : ∃ W, W = w3.alloc (.cells #[.int .i64 e0, .int .i64 e1, .int .i64 e2, .int .i64 e3, .int .i64 e4, .int .i64 e5, .int .i64 e6] 76) := ⟨_, rfl⟩
      have b34 : Below w3.heap.size w3 w4 := by rw [ee4]; exact (Below.refl _ _).alloc (Nat.le_refl _) _
      have K4 : BK w4 w3.heap.size 76 [.int .i64 e0, .int .i64 e1, .int .i64 e2, .int .i64 e3, .int .i64 e4, .int .i64 e5, .int .i64 e6] := by rw [ee4]; exact BK.new w3 _ _
      have r4 : RI w4 (some ⟨w3.heap.size, 0, none⟩) 7 [e0, e1, e2, e3, e4, e5, e6] := by
        refine ⟨rfl, fun _ => ⟨_, rfl, fun j hj => ?_⟩⟩
        rw [show (⟨w3.heap.size, 0, none⟩ : Addr).add j = ⟨w3.heap.size, j, none⟩ by unfold Addr.add; split <;> simp_all]
        refine K4.cell ?_
        have : j = 0 ∨ j = 1 ∨ j = 2 ∨ j = 3 ∨ j = 4 ∨ j = 5 ∨ j = 6 := by omega
        rcases this with rfl | rfl | rfl | rfl | rfl | rfl | rfl <;> rfl
      have h4s : w4.heap.size = w3.heap.size + 1 := by rw [ee4]; simp
      rw [← ee4]
      clear ee4 K4
      refine (clone_any _ r4 (by omega)).mono ?_
      rintro e w5 ⟨A5, n5, c5, rfl, o5, r5, -, b45⟩
      obtain ⟨hec, hpr3, hlt, g3, s3⟩ := HX.out
      have ot3 : OT w3 w.heap.size w2.heap.size (.slice A L.length c) L cs := HOT.out.kept_it g3 HNE.out (by omega)
      have ot5 : Hid (OT w5 w.heap.size w2.heap.size (.slice A L.length c) L cs) := OF.below (OF.below ot3 b34) b45
      have pr5 : Hid (PR H w5 b w1.heap.size n acc (L ++ [([e0, e1, e2, e3, e4, e5, e6], z)]) cnt') := (hpr3.below b34).below b45
      have o5' : Hid (OI w5 w2.heap.size (.slice A5 n5 c5) [e0, e1, e2, e3, e4, e5, e6]) := o5.mono (by have := HS2.out; omega)
      have hap : Hid (∀ u' ∈ cs, u'.ownBlock = none ∨ u'.ownBlock ≠ (Value.slice A5 n5 c5).ownBlock) := apart_new (H := w4.heap.size) HOT.out.2.1 (by omega) o5
      have bw3 : Below w.heap.size w w3 := HBL.out.trans ⟨g3.os, g3.tape, g3.output, g3.size, fun i hi => g3.block i (by have := HBL.out.size; omega) (fun e => by have := hs1.out; cases e; omega)⟩
      have bw5 : Hid (Below w.heap.size w w5) := bnext (bnext bw3 b34 bw3.size) b45 (by have := bw3.size; omega)
      have h5s : Hid (w4.heap.size ≤ w5.heap.size ∧ w3.heap.size = wr.heap.size ∧ w4.heap.size = w3.heap.size + 1 ∧ cnt' < cnt) := ⟨b45.size, s3, h4s, hlt⟩
      have hll : Hid (L.length ≤ 600) := by show _ ≤ _; have := HPR.out.len; omega
      clear hec hpr3 hlt g3 s3 ot3 o5 bw3 b45 b34 h4s r4 r5
      go_wp2_with (first | (at_builtin; refine wpAppT rfl _ _ rfl w.heap.size w2.heap.size (.slice A L.length c) (.slice A5 n5 c5) L cs [e0, e1, e2, e3, e4, e5, e6] z rfl rfl ot5.out o5'.out hap.out (by have := hll.out; omega) bw5.out.size ?_; intro v6 w6 o6 g6 k6) | fail)
      go_roundw
      case rel =>
        have ba : Below w5.heap.size w5 (w5.alloc (.cells #[.slice A5 n5 c5, .int .i64 z] 81)) := (Below.refl _ _).alloc (Nat.le_refl _) _
        have hlow : ∀ k, (Value.slice A L.length c).ownBlock = some k → w.heap.size ≤ k := fun k hk => (OF.lt HOT.out k hk).1
        have bwa := bnext bw5.out ba bw5.out.size
        have hbl := hh.out.lt
        have h1s := hs1.out
        have hs2' := HS2.out
        have h5' := h5s.out
        have bs := ba.size
        have g6s := g6.size
        refine ⟨L ++ [([e0, e1, e2, e3, e4, e5, e6], z)], cnt', _, (pr5.out.below ba).kept g6 (fun e => ?_) (fun e => HNE.out e.symm), o6, bwa.trans ⟨g6.os, g6.tape, g6.output, g6.size, fun i hi => g6.block i (by have := bwa.size; omega) (fun e => by have := hlow i e.symm; omega)⟩, ?_, ?_⟩
        · have := hlow b e.symm; omega
        · rcases k6 with k6 | k6
          · rw [k6]; exact HNE.out
          · rw [k6]; intro e; injection e with e; omega
        · omega
      case measure =>
        have ba : Below w5.heap.size w5 (w5.alloc (.cells #[.slice A5 n5 c5, .int .i64 z] 81)) := (Below.refl _ _).alloc (Nat.le_refl _) _
        have hlow : ∀ k, (Value.slice A L.length c).ownBlock = some k → w.heap.size ≤ k := fun k hk => (OF.lt HOT.out k hk).1
        have hbl := hh.out.lt
        have pr6 := (pr5.out.below ba).kept g6 (fun e => by have := hlow b e.symm; omega) (fun e => HNE.out e.symm)
        have h5' := h5s.out
        rw [pr6.left_eq, HPR.out.left_eq]
        omega
end Go.Proofs.Ytgbojgmmingfdaa

/- Terms: an exponent list and a coefficient: comparisons and marks of slices of them, as the statements make them. -/
namespace Go.Proofs.Ytgbojgmmingfdaa
open Go.RowKit

/-- The value is a slice of terms that the call owns, its fields in the words of parts. -/
def OTp (w : World) (base b : Nat) (v : Value) (ps : List (List Int × Int)) (cells : List Value) : Prop := OF w base b 81 2 v ps.length (partF ps) cells
theorem OT.tp {w : World} {base b : Nat} {v : Value} {ps : List (List Int × Int)} {cells : List Value} (h : OT w base b v ps cells) : OTp w base b v ps cells := by
  unfold OT at h
  rw [tF_part] at h
  exact h
theorem OTp.below {w w' : World} {base b : Nat} {v : Value} {ps : List (List Int × Int)} {cells : List Value} (h : OTp w base b v ps cells) (hb : Below w.heap.size w w') : OTp w' base b v ps cells := OF.below h hb
theorem eqTerm_any {A C : Option Addr} {n m : Nat} {xs : List Int} {w : World} (c d : Nat) (p : Int) (hx : RI w A n xs) (hy : RI w C m xs) (hn : n ≤ 9223372036854775807) :
    Calls Try.prog 67 #[.agg #[.slice A n c, .int .i64 p], .agg #[.slice C m d, .int .i64 p]] w (GivesB w (.bool true)) := by
  obtain rfl : n = m := hx.1.symm.trans hy.1
  go_enter Try.func67, Try.ntmps67
  go_wp2_with fail
  refine (eqI_any true _ _ ((hx.alloc _).alloc _) ((hy.alloc _).alloc _) (by simp) hn hn).mono ?_
  rintro e w1 ⟨rfl, q, rfl⟩
  go_wp2
  go_ret
  exact ⟨rfl, below_drewN (((Below.refl _ _).alloc (Nat.le_refl _) _).alloc (by simp) _) _⟩

theorem OTp.cell {w : World} {base b g n c k : Nat} {ps : List (List Int × Int)} {cells : List Value} (h : OTp w base b (.slice (some ⟨g, 0, none⟩) n c) ps cells) (hk : k < ps.length) :
    ∃ A' n' c', w.cell? ⟨g, k * 2, none⟩ = some (.slice A' n' c') ∧ cells[k * 2]? = some (.slice A' n' c') ∧ OI w b (.slice A' n' c') (nthP ps k).1 ∧ n' ≤ c' ∧ w.cell? ⟨g, k * 2 + 1, none⟩ = some (.int .i64 (nthP ps k).2) := by
  have hn : n = ps.length := by
    obtain ⟨A, c', hv, _⟩ := OF.form h
    injection hv
  subst hn
  obtain ⟨u, hu, hf⟩ := h.2.1.at_ (partF_at0 hk)
  have hf' : OI w b u (nthP ps k).1 := hf
  obtain ⟨A', n', c', rfl, _, hcc, _⟩ := hf'.form
  obtain ⟨u', hu', hf2⟩ := h.2.1.at_ (partF_at1 hk)
  have hf2' : u' = .int .i64 (nthP ps k).2 := hf2
  subst hf2'
  exact ⟨A', n', c', by rw [OF.cellF h (by omega), hu], hu, hf', hcc, by rw [OF.cellF h (by omega), hu']⟩

set_option maxRecDepth 100000 in
theorem eqTermS_any {v v' : Value} {base b base' b' : Nat} {ps : List (List Int × Int)} {cells cells' : List Value} {w : World} (h1 : OTp w base b v ps cells) (h2 : OTp w base' b' v' ps cells') (hn : ps.length ≤ 1000000000) :
    Calls Try.prog 12 #[v, v'] w (GivesB w (.bool true)) := by
  obtain ⟨A, c, rfl, hc, _⟩ := OF.form h1
  obtain ⟨A', c', rfl, hc', _⟩ := OF.form h2
  obtain ⟨n, hn'⟩ : ∃ n, n = ps.length := ⟨_, rfl⟩
  rw [← hn'] at hn hc hc' ⊢
  have HN := Lib.hid hn'
  rw [← hn'] at h1 h2
  clear hn'
  go_enter Try.func12, Try.ntmps12
  go_wp2
  go_loopw [5] (fun i wr => ∃ k : Nat, k ≤ n ∧ i = .int .i64 k ∧ Below w.heap.size w wr) (fun i _ => n - (intOf i).toNat)
  case atStart => exact ⟨0, Nat.zero_le _, rfl, Below.refl _ _⟩
  case round =>
    obtain ⟨k, hk, rfl, hbl⟩ := hrel
    by_cases hlt : k < n
    · have g1 := OF.below h1 hbl
      have g2 := OF.below h2 hbl
      obtain ⟨G, cc, hG, _⟩ := OF.shape g1 (by rw [← HN.out]; omega)
      obtain ⟨G', cc', hG', _⟩ := OF.shape g2 (by rw [← HN.out]; omega)
      obtain ⟨rfl, e2, e3⟩ := slice_inj hG
      obtain ⟨rfl, e2', e3'⟩ := slice_inj hG'
      clear hG hG' e2 e3 e2' e3'
      obtain ⟨A1, n1, c1, x1, _, x2, _, x3⟩ := OTp.cell g1 (k := k) (by rw [← HN.out]; exact hlt)
      obtain ⟨A2, n2, c2, y1, _, y2, _, y3⟩ := OTp.cell g2 (k := k) (by rw [← HN.out]; exact hlt)
      clear g1 g2
      go_wp2_with fail
      go_still_tail 8, (by kernel_rfl)
      change wpList _ _ _ _ _ wr.drew
      obtain ⟨w2, hw2⟩ : ∃ w2, w2 = wr.drew := ⟨_, rfl⟩
      have b2 : Below wr.heap.size wr w2 := by rw [hw2]; exact (Below.refl _ _).drew
      rw [← hw2]
      clear hw2
      have b2' := bnext hbl b2 hbl.size
      go_wp2_with (go_at_call 67; refine (eqTerm_any _ _ _ (x2.below b2).ri (y2.below b2).ri x2.le.1).mono ?_; rintro e w3 ⟨rfl, b3⟩)
      go_roundw
      case rel => exact ⟨k + 1, by omega, by go_num, bnext b2' b3 b2'.size⟩
      case measure => simp [intOf]; omega
    · go_wp2
      go_ret
      exact ⟨rfl, hbl⟩

set_option maxRecDepth 100000 in
theorem markTermS_any {v : Value} {base b hi : Nat} {ps : List (List Int × Int)} {cells : List Value} {w : World} (k0 : Int) (h : OTp w base b v ps cells) (hin : In base hi v cells) (h0 : 0 ≤ k0) (h1 : k0 ≤ 100000000000)
    (hn : ps.length ≤ 1000000) (hw : ∀ x ∈ partF ps, wF x ≤ 100000) :
    Calls Try.prog 15 #[v, .int .i64 k0] w (fun e w' => ∃ cells', e = .returned (.int .i64 (kF (partF ps) k0 (ps.length * 2))) ∧ OF w' base b 81 2 v ps.length (markedF (partF ps) k0 (ps.length * 2)) cells' ∧ Within base hi w w') := by
  obtain ⟨A, c, rfl, hc, _⟩ := OF.form h
  obtain ⟨n, hn'⟩ : ∃ n, n = ps.length := ⟨_, rfl⟩
  have h' : OF w base b 81 2 (.slice A n c) n (partF ps) cells := by rw [hn']; exact h
  rw [← hn'] at hn hc hin ⊢
  have HN := Lib.hid hn'
  have HW := Lib.hid hw
  clear hn' hw h
  go_enter Try.func15, Try.ntmps15
  go_wp2
  go_loopw [1, 5] (fun k i wr => ∃ (q : Nat) (cs : List Value), q ≤ n ∧ k = .int .i64 (kF (partF ps) k0 (q * 2)) ∧ i = .int .i64 q ∧ OF wr base b 81 2 (.slice A n c) n (markedF (partF ps) k0 (q * 2)) cs ∧ In base hi (.slice A n c) cs ∧ Within base hi w wr) (fun _ i _ => n - (intOf i).toNat)
  case atStart => exact ⟨0, cells, Nat.zero_le _, rfl, rfl, by rw [Nat.zero_mul, markedF_zero]; exact h', hin, Within.refl _ _ _⟩
  case round =>
    clear h' hin
    obtain ⟨q, cs, hq, rfl, rfl, ho, hin, hwi⟩ := hrel
    by_cases hlt : q < n
    · obtain ⟨G, cc, hG, _⟩ := OF.shape ho (by omega)
      obtain ⟨rfl, e2, e3⟩ := slice_inj hG
      clear e2 e3
      have f0 := partF_at0 (ps := ps) (k := q) (by rw [← HN.out]; exact hlt)
      have f1 := partF_at1 (ps := ps) (k := q) (by rw [← HN.out]; exact hlt)
      have F0 := Lib.hid f0
      have F1 := Lib.hid f1
      obtain ⟨u, hu, hf⟩ := ho.2.1.at_ (markedF_new f0)
      have hf' : OI wr b u (nthP ps q).1 := hf
      obtain ⟨A1, n1, c1, rfl, hri, hcc, hnn, _⟩ := hf'.form
      obtain ⟨u', hu', hf2⟩ := ho.2.1.at_ ((markedF_at (m := q * 2) (List.getElem?_eq_some_iff.1 f1).1).trans (by rw [if_neg (by omega), getF_at f1]))
      have hf2' : u' = .int .i64 (nthP ps q).2 := hf2
      subst hf2'
      have c0 : wr.cell? ⟨G, q * 2, none⟩ = some (.slice A1 n1 c1) := by rw [OF.cellF ho (by omega), hu]
      have kb := kF_bound (k0 := k0) HW.out (by omega) (q * 2)
      have hl : n1 ≤ 100000 := by
        have := HW.out _ (List.mem_of_getElem? f0)
        rw [← hri.1]; exact this
      have kb2 : kF (partF ps) k0 (q * 2) ≤ 300000000000 := by
        have : q * 2 * 100000 ≤ 1000000 * 2 * 100000 := by omega
        omega
      have kb1 := kb.1
      obtain ⟨K, hK⟩ : ∃ K, K = kF (partF ps) k0 (q * 2) := ⟨_, rfl⟩
      have HK := Lib.hid hK
      rw [← hK] at kb1 kb2 ⊢
      have HU := Lib.hid hu
      have HU' := Lib.hid hu'
      have HI := Lib.hid hri.1
      clear f0 f1 hf kb hG hK hri hu hu'
      have HO := Lib.hid ho
      have b4 := hwi.size
      have hbk := hf'.lt
      clear ho
      go_wp2_with fail
      refine (markI_any K hf' (by omega) (by omega) (by omega)).mono ?_
      rintro e w1 ⟨rfl, o1, g1⟩
      have s1 := OF.setInner HO.out (by decide) (markedF_new F0.out) HU.out g1 o1
      have e1 : (markedF (partF ps) k0 (q * 2)).set (q * 2) (.inr (upFrom K n1)) = markedF (partF ps) k0 (q * 2 + 1) := by
        rw [← markedF_step F0.out, ← HK.out, ← HI.out]; rfl
      rw [e1] at s1
      have hm1 := markedF_new (k0 := k0) F1.out
      have c1' : w1.cell? ⟨G, q * 2 + 1, none⟩ = some (.int .i64 (nthP ps q).2) := by rw [OF.cellF s1 (by omega), HU'.out]
      have f1' := OF.frozenF s1 (q * 2 + 1)
      have ST := Lib.hid (OF.setInt s1 (by decide) hm1 (K + n1))
      have HIN := Lib.hid hin
      have HWI := Lib.hid hwi
      clear s1 e1 hm1 hin hwi hf'
      go_wp2
      have ek : kF (partF ps) k0 (q * 2 + 1) = K + n1 := by rw [kF_step F0.out, ← HK.out, ← HI.out]; rfl
      have ek2 : kF (partF ps) k0 ((q + 1) * 2) = K + n1 + 1 := by
        rw [show (q + 1) * 2 = q * 2 + 1 + 1 by omega, kF_step F1.out, ek]; rfl
      have em : (markedF (partF ps) k0 (q * 2 + 1)).set (q * 2 + 1) (.inl (K + n1)) = markedF (partF ps) k0 ((q + 1) * 2) := by
        rw [show (q + 1) * 2 = q * 2 + 1 + 1 by omega, ← markedF_step F1.out, ek]; rfl
      have hG2 := HIN.out.1 G rfl
      go_roundw
      case rel =>
        refine ⟨q + 1, cs.set (q * 2 + 1) (.int .i64 (K + n1)), by omega, by rw [ek2], by go_num, by rw [← em]; exact ST.out.1, ⟨HIN.out.1, ?_⟩, ?_⟩
        · intro u hu k hk
          rcases List.mem_or_eq_of_mem_set hu with h | rfl
          · exact HIN.out.2 u h k hk
          · simp [Value.ownBlock] at hk
        · exact (HWI.out.grown g1 (fun g e => HIN.out.2 _ (List.mem_of_getElem? HU.out) g e)).grown ST.out.2 (fun g e => by injection e with e; subst e; exact hG2)
      case measure => simp [intOf]; omega
    · obtain rfl : q = n := by omega
      have HO := Lib.hid ho
      clear ho
      go_wp2
      go_ret
      exact ⟨cs, rfl, HO.out, hwi⟩

set_option maxRecDepth 100000 in
theorem heldTermS_any {v : Value} {base b : Nat} {ps : List (List Int × Int)} {cells : List Value} {w : World} (k0 : Int) (h : OF w base b 81 2 v ps.length (markedF (partF ps) k0 (ps.length * 2)) cells) (h0 : 0 ≤ k0) (h1 : k0 ≤ 100000000000)
    (hn : ps.length ≤ 1000000) (hw : ∀ x ∈ partF ps, wF x ≤ 100000) :
    Calls Try.prog 16 #[v, .int .i64 k0] w (Gives w (.int .i64 (kF (partF ps) k0 (ps.length * 2)))) := by
  obtain ⟨A, c, rfl, hc, _⟩ := OF.form h
  obtain ⟨n, hn'⟩ : ∃ n, n = ps.length := ⟨_, rfl⟩
  rw [← hn'] at hn hc h ⊢
  have HN := Lib.hid hn'
  have HW := Lib.hid hw
  clear hn' hw
  go_enter Try.func16, Try.ntmps16
  go_wp2
  go_loopw [1, 5] (fun k i wr => ∃ (q : Nat), q ≤ n ∧ k = .int .i64 (kF (partF ps) k0 (q * 2)) ∧ i = .int .i64 q ∧ Quiet w wr) (fun _ i _ => n - (intOf i).toNat)
  case atStart => exact ⟨0, Nat.zero_le _, rfl, rfl, (by first | exact ⟨_, rfl⟩ | exact ⟨_, (World.drewN_drewN _ _ _).symm⟩ | exact Quiet.refl _ | (simp only [World.drewN_drewN]; exact ⟨_, rfl⟩))⟩
  case round =>
    obtain ⟨q, hq, rfl, rfl, ⟨qq, rfl⟩⟩ := hrel
    by_cases hlt : q < n
    · obtain ⟨G, cc, hG, _⟩ := OF.shape h (by omega)
      obtain ⟨rfl, e2, e3⟩ := slice_inj hG
      clear e2 e3 hG
      have f0 := partF_at0 (ps := ps) (k := q) (by rw [← HN.out]; exact hlt)
      have f1 := partF_at1 (ps := ps) (k := q) (by rw [← HN.out]; exact hlt)
      have F0 := Lib.hid f0
      have F1 := Lib.hid f1
      obtain ⟨u, hu, hf⟩ := h.2.1.at_ (markedF_old (k0 := k0) (m := n * 2) f0 (by omega))
      have hf' : OI w b u (upFrom (kF (partF ps) k0 (q * 2)) (nthP ps q).1.length) := hf
      obtain ⟨A1, n1, c1, rfl, hri, hcc, hnn, _⟩ := hf'.form
      obtain ⟨u', hu', hf2⟩ := h.2.1.at_ (markedF_old (k0 := k0) (m := n * 2) f1 (by omega))
      have hf2' : u' = .int .i64 (kF (partF ps) k0 (q * 2 + 1)) := hf2
      subst hf2'
      have kb := kF_bound (k0 := k0) HW.out (by omega) (q * 2)
      have hl1 : (nthP ps q).1.length = n1 := by have := hri.1; rwa [upFrom_len] at this
      rw [hl1] at hri
      have hl : n1 ≤ 100000 := by
        have := HW.out _ (List.mem_of_getElem? f0)
        rw [← hl1]; exact this
      have kb2 : kF (partF ps) k0 (q * 2) ≤ 300000000000 := by
        have : q * 2 * 100000 ≤ 1000000 * 2 * 100000 := by omega
        omega
      have kb1 := kb.1
      have ek : kF (partF ps) k0 (q * 2 + 1) = kF (partF ps) k0 (q * 2) + n1 := by rw [kF_step F0.out, ← hl1]; rfl
      have ek2 : kF (partF ps) k0 ((q + 1) * 2) = kF (partF ps) k0 (q * 2) + n1 + 1 := by
        rw [show (q + 1) * 2 = q * 2 + 1 + 1 by omega, kF_step F1.out, ek]; rfl
      rw [ek] at hu'
      have c0 : w.cell? ⟨G, q * 2, none⟩ = some (.slice A1 n1 c1) := by rw [OF.cellF h (by omega), hu]
      have c1' : w.cell? ⟨G, q * 2 + 1, none⟩ = some (.int .i64 (kF (partF ps) k0 (q * 2) + n1)) := by rw [OF.cellF h (by omega), hu']
      obtain ⟨K, hK⟩ : ∃ K, K = kF (partF ps) k0 (q * 2) := ⟨_, rfl⟩
      have HK := Lib.hid hK
      have EK2 := Lib.hid ek2
      rw [← hK] at kb1 kb2 c1' hri ⊢
      clear f0 f1 hf kb hK hu hu' ek ek2 hl1 hf' hf2
      go_wp2_with (go_at_call 68; refine (heldI_any _ K (hri.drewN _) (by omega) (by omega) (by omega)).mono ?_; rintro e w' ⟨rfl, q0, rfl⟩)
      go_roundw
      case rel => exact ⟨q + 1, by omega, by rw [EK2.out, ← HK.out], by go_num, (by first | exact ⟨_, rfl⟩ | exact ⟨_, (World.drewN_drewN _ _ _).symm⟩ | exact Quiet.refl _ | (simp only [World.drewN_drewN]; exact ⟨_, rfl⟩))⟩
      case measure => simp [intOf]; omega
    · obtain rfl : q = n := by omega
      go_wp2
      go_ret
      exact ⟨rfl, (by first | exact ⟨_, rfl⟩ | exact ⟨_, (World.drewN_drewN _ _ _).symm⟩ | exact Quiet.refl _ | (simp only [World.drewN_drewN]; exact ⟨_, rfl⟩))⟩

end Go.Proofs.Ytgbojgmmingfdaa
