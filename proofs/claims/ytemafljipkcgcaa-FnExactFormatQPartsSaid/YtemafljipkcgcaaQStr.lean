/- FormatQParts of both sides. -/
import Derived.Test.YtemafljipkcgcaaQMake
import Derived.Test.YtemafljipkcgcaaDecs
import Derived.Test.YtemafljipkcgcaaJoinR2
import Derived.Deep.RegionHeld3
namespace Go.Proofs.Ytemafljipkcgcaa
open Go.RowKit

def qB (x : QT) : ByteArray := ⟨(dec x.2.2 ++ [58, 113] ++ dec x.1 ++ [58] ++ fmtD x.2.1).toArray⟩
/-- Its numbers are of 64 bits, its shape is not long. -/
def QIn (x : QT) : Prop := (-9223372036854775808 ≤ x.1 ∧ x.1 ≤ 9223372036854775807) ∧ (-9223372036854775808 ≤ x.2.2 ∧ x.2.2 ≤ 9223372036854775807) ∧ In64 x.2.1 ∧ x.2.1.length ≤ 1048576
def qBs (ps : List QT) : List ByteArray := ps.map qB
def fmtQ (ps : List QT) : List UInt8 := Lib.join ((qBs ps).map (·.data.toList)) [44, 32]
theorem qB_eq (x : QT) : decB x.2.2 ++ ⟨#[58, 113]⟩ ++ decB x.1 ++ ⟨#[58]⟩ ++ ⟨(fmtD x.2.1).toArray⟩ = qB x := by
  apply ByteArray.ext
  rw [← Array.toList_inj]
  simp only [ByteArray.data_append, Array.toList_append, decB, qB]
theorem qB_len {x : QT} (h : QIn x) : (qB x).data.toList.length ≤ 23000000 := by
  have h1 : (dec x.1).length ≤ 20 := dec_len h.1.1 h.1.2
  have h2 : (dec x.2.2).length ≤ 20 := dec_len h.2.1.1 h.2.1.2
  have h3 := fmtD_len h.2.2.1
  have h4 := h.2.2.2
  simp only [qB, List.length_append, List.length_cons, List.length_nil]
  omega
theorem join_len (M : Nat) (sep : List UInt8) (xs : List (List UInt8)) (h : ∀ x ∈ xs, x.length ≤ M) : (Lib.join xs sep).length ≤ (M + sep.length) * xs.length := by
  cases xs with
  | nil => simp [Lib.join_nil]
  | cons a r =>
    have key : ∀ r : List (List UInt8), (∀ x ∈ r, x.length ≤ M) → (Lib.joinTail sep r).length ≤ (M + sep.length) * r.length := by
      intro r
      induction r with
      | nil => intro _; simp [Lib.joinTail]
      | cons b r ih =>
        intro h
        have h1 := ih (fun x hx => h x (by simp [hx]))
        have hb := h b (by simp)
        simp only [Lib.joinTail, List.map_cons, List.flatten_cons, List.length_append, List.length_cons, Nat.mul_add, Nat.mul_one] at h1 ⊢
        omega
    have h1 := key r (fun x hx => h x (by simp [hx]))
    have ha := h a (by simp)
    rw [Lib.join_cons, List.length_append, List.length_cons, Nat.mul_add]
    omega
theorem fmtQ_len {ps : List QT} (h : ∀ k, k < ps.length → QIn (nthQ ps k)) : (fmtQ ps).length ≤ 23000002 * ps.length := by
  have := join_len 23000000 [44, 32] ((qBs ps).map (·.data.toList)) (by
    intro x hx
    simp only [qBs, List.mem_map] at hx
    obtain ⟨b, ⟨y, hy, rfl⟩, rfl⟩ := hx
    obtain ⟨k, hk, e⟩ := List.getElem_of_mem hy
    have := h k hk
    rw [show nthQ ps k = y from by simp [nthQ, hk, e]] at this
    exact qB_len this)
  simpa [fmtQ, qBs] using this
theorem fmtQ_one (x : QT) : fmtQ [x] = (qB x).data.toList := by simp [fmtQ, qBs, Lib.join_one]
theorem fmtQ_snoc {l : List QT} {x : QT} (h : l ≠ []) : fmtQ (l ++ [x]) = fmtQ l ++ [44, 32] ++ (qB x).data.toList := by
  unfold fmtQ qBs
  rw [List.map_append, List.map_append]
  exact join_snoc (by simpa using h)
/-- What FormatQParts gives. -/
def strQ (ps : List QT) : ByteArray := if ps.length = 0 then ⟨#[48]⟩ else ⟨(fmtQ ps).toArray⟩
theorem takeQ {ps : List QT} {k : Nat} (hk : k < ps.length) : ps.take (k + 1) = ps.take k ++ [nthQ ps k] := by
  rw [List.take_add_one, List.getElem?_eq_getElem hk]
  simp [nthQ, hk]

/-- Block g holds these shapes with powers. -/
def OQ (w : World) (g : Nat) (ps : List QT) : Prop := ∃ cs, BK w g 70 cs ∧ cs.length = ps.length * 3 ∧ ∀ j, j < ps.length → QC w g cs j (nthQ ps j)
theorem OQ.lt {w : World} {g : Nat} {ps : List QT} (h : OQ w g ps) : g < w.heap.size := by
  obtain ⟨cs, hb, -, -⟩ := h
  exact hb.lt
theorem OQ.below {w w' : World} {g : Nat} {ps : List QT} (h : OQ w g ps) (b : Below w.heap.size w w') : OQ w' g ps := by
  obtain ⟨cs, hb, hl, hq⟩ := h
  exact ⟨cs, hb.below b hb.lt, hl, fun j hj => (hq j hj).below b⟩
theorem QC.cells {w : World} {g k : Nat} {cs : List Value} {T : TypeId} {x : QT} (hb : BK w g T cs) (hq : QC w g cs k x) : ∃ A m c, cs[k * 3 + 1]? = some (.slice A m c) ∧ (w.cell? ⟨g, k * 3, none⟩ = some (.int .i64 x.1) ∧ w.cell? ⟨g, k * 3 + 1, none⟩ = some (.slice A m c) ∧ w.cell? ⟨g, k * 3 + 2, none⟩ = some (.int .i64 x.2.2)) ∧ RI w A m x.2.1 := by
  obtain ⟨A, m, c, h1, h2, h3, ho⟩ := hq
  exact ⟨A, m, c, h2, ⟨hb.cell h1, hb.cell h2, hb.cell h3⟩, ho.ri⟩
/-- Element k, in all worlds that keep the block. -/
theorem OQ.at {w : World} {g k : Nat} {ps : List QT} (h : OQ w g ps) (hk : k < ps.length) : ∃ A m c, m = (nthQ ps k).2.1.length ∧ ∀ w', Below w.heap.size w w' → (w'.cell? ⟨g, k * 3, none⟩ = some (.int .i64 (nthQ ps k).1) ∧ w'.cell? ⟨g, k * 3 + 1, none⟩ = some (.slice A m c) ∧ w'.cell? ⟨g, k * 3 + 2, none⟩ = some (.int .i64 (nthQ ps k).2.2)) ∧ RI w' A m (nthQ ps k).2.1 := by
  obtain ⟨cs, hb, hl, hq⟩ := h
  obtain ⟨A, m, c, -, hc, hr⟩ := QC.cells hb (hq k hk)
  refine ⟨A, m, c, hr.1.symm, fun w' b => ?_⟩
  obtain ⟨A', m', c', e', hc', hr'⟩ := QC.cells (hb.below b hb.lt) ((hq k hk).below b)
  obtain ⟨A2, m2, c2, e2, hc2, hr2⟩ := QC.cells hb (hq k hk)
  have h1 := hc.2.1
  have h2 := hc2.2.1
  rw [h1] at h2
  simp only [Option.some.injEq, Value.slice.injEq] at h2
  obtain ⟨rfl, rfl, rfl⟩ := h2
  rw [e'] at e2
  simp only [Option.some.injEq, Value.slice.injEq] at e2
  obtain ⟨rfl, rfl, rfl⟩ := e2
  exact ⟨hc', hr'⟩

theorem eqQ2_any {A B : Option Addr} {n m : Nat} {l : List Int} {w : World} (c d : Nat) (p q : Int) (h1 : RI w A n l) (h2 : RI w B m l) (hn : n ≤ 9223372036854775807) :
    Calls Try.prog 66 #[.agg #[.int .i64 p, .slice A n c, .int .i64 q], .agg #[.int .i64 p, .slice B m d, .int .i64 q]] w (GivesB w (.bool true)) := eqQ1_any c d p q h1 h2 hn

set_option maxHeartbeats 1000000 in
theorem eqQ_any {g h : Nat} {ps : List QT} {w : World} {n : Nat} (hx : OQ w g ps) (hy : OQ w h ps) (hn : ps.length = n) (hn2 : n ≤ 9223372036854775807) (hs : ∀ k, k < ps.length → (nthQ ps k).2.1.length ≤ 1048576) :
    Calls Try.prog 42 #[.slice (some ⟨g, 0, none⟩) n n, .slice (some ⟨h, 0, none⟩) n n] w (GivesB w (.bool true)) := by
  have HL := Lib.hid hn
  have HX := Lib.hid hx
  have HY := Lib.hid hy
  have HS := Lib.hid hs
  clear hx hy hs hn
  go_enter Try.func42, Try.ntmps42
  go_wp2
  go_loopw [5] (fun i wr => ∃ (k : Nat), k ≤ n ∧ i = .int .i64 (k : Int) ∧ Hid (Below w.heap.size w wr)) (fun i _ => n - (intOf i).toNat)
  case atStart => exact ⟨0, Nat.zero_le _, rfl, Below.refl _ _⟩
  case round =>
    obtain ⟨k, hk, rfl, HB⟩ := hrel
    by_cases hlt : k < n
    · have OX := Lib.hid (HX.out.below HB.out)
      have OY := Lib.hid (HY.out.below HB.out)
      obtain ⟨A, m, c, hm, hq⟩ := OX.out.at (k := k) (by rw [HL.out]; exact hlt)
      obtain ⟨B, m2, d, hm2, hr⟩ := OY.out.at (k := k) (by rw [HL.out]; exact hlt)
      have hls := HS.out k (by rw [HL.out]; exact hlt)
      have HQ := Lib.hid hq
      have HR := Lib.hid hr
      clear hq hr
      obtain ⟨p, l, q, hx⟩ : ∃ p l q, nthQ ps k = (p, l, q) := ⟨_, _, _, rfl⟩
      rw [hx] at HQ HR hm hm2 hls
      simp only at HQ HR hm hm2 hls
      clear hx
      have hm' : m ≤ 9223372036854775807 := by omega
      obtain rfl : m = m2 := hm.trans hm2.symm
      clear hm hm2 hls
      obtain ⟨⟨q1, q2, q3⟩, -⟩ := HQ.out wr (Below.refl _ _)
      obtain ⟨⟨r1, r2, r3⟩, -⟩ := HR.out wr (Below.refl _ _)
      go_wp2_with fail
      go_region_held3 (fun w' => (w'.cell? ⟨g, k * 3, none⟩ = some (Value.int IntKind.i64 p) ∧ w'.cell? ⟨g, k * 3 + 1, none⟩ = some (Value.slice A m c) ∧ w'.cell? ⟨g, k * 3 + 2, none⟩ = some (Value.int IntKind.i64 q)) ∧ w'.cell? ⟨h, k * 3, none⟩ = some (Value.int IntKind.i64 p) ∧ w'.cell? ⟨h, k * 3 + 1, none⟩ = some (Value.slice B m d) ∧ w'.cell? ⟨h, k * 3 + 2, none⟩ = some (Value.int IntKind.i64 q)) (first | exact ⟨⟨q1, q2, q3⟩, r1, r2, r3⟩ | exact ⟨(HQ.out _ b2).1, (HR.out _ b2).1⟩) (first
        | (go_at_call 66; refine (eqQ2_any (l := l) _ _ _ _ ?_ ?_ hm').mono ?_; exact (HQ.out _ ⟨rfl, rfl, rfl, Nat.le_refl _, fun _ _ => rfl⟩).2; exact (HR.out _ ⟨rfl, rfl, rfl, Nat.le_refl _, fun _ _ => rfl⟩).2; rintro e w2 ⟨rfl, b2⟩; have b2 : Below wr.heap.size wr w2 := ⟨b2.os, b2.tape, b2.output, b2.size, b2.block⟩))
      go_wp2
      go_roundw
      case rel => exact ⟨k + 1, by omega, by go_num, bnext HB.out b2 HB.out.size⟩
      case measure => simp [intOf]; omega
    · obtain rfl : k = n := by omega
      go_wp2
      go_ret
      exact ⟨rfl, HB.out⟩

theorem stepAppTx {w : World} {ops : Array Oper} {o : Oper} {a : Act} {K : Act → World → Prop} {Q : Exit → Act → World → Prop} {E : Prop} (hgd : o.guard = none) (s x : Operand)
    (ho : o.op = .call { callee := .builtin .append, args := #[s, x], argTypes := #[86, 86] })
    (base : Nat) (v : Value) (l : List ByteArray) (y : ByteArray) (g c : Nat) (hs : a.eval s = v) (hx : a.eval x = .slice (some ⟨g, 0, none⟩) 1 c) (hown : OKTx w base v l) (hr : w.cell? ⟨g, 0, none⟩ = some (Value.string y)) (hlen : l.length + 1 ≤ 1000000000000) (hbase : base ≤ w.heap.size)
    (h : ∀ v' w', OKTx w' base v' (l ++ [y]) → w.grownBy w' v.ownBlock → K (a.put o.dst v') w') :
    if Region.wanted o (yielded ops a.tmps) = true then Oper.wp Try.prog o a w K Q else E := by
  have hw : Region.wanted o (yielded ops a.tmps) = true := by simp [Region.wanted, hgd]
  rw [if_pos hw]
  obtain ⟨v', w', hrun, h2, h3, -⟩ := run_appTx (c := c) o.type hown hr hlen hbase
  unfold Oper.wp execOp
  simp only [ho, resolve, invoke, builtin, Sem.run_bind, Sem.run_pure, Result.andThen_ok, List.map_toArray, List.map_cons, List.map_nil, hs, hx, hrun]
  exact h v' w' h2 h3

theorem okAlloc {w4 X : World} {base : Nat} {v : Value} {l : List ByteArray} {o : Obj} (h : OKTx w4 base v l) (e1 : X.os = w4.os) (e2 : X.tape = w4.tape) (e3 : X.output = w4.output) (e4 : X.heap = w4.heap) : OKTx (X.alloc o) base v l :=
  (h.below ⟨e1, e2, e3, Nat.le_of_eq (by rw [e4]), fun k _ => by rw [e4]⟩).alloc o
theorem app_past {w w4 X w5 : World} {o : Obj} {row : Option Nat} (g4 : Below w.heap.size w w4) (k2 : (X.alloc o).grownBy w5 row) (hrow : ∀ j, row = some j → w.heap.size ≤ j) (e1 : X.os = w4.os) (e2 : X.tape = w4.tape) (e3 : X.output = w4.output) (e4 : X.heap = w4.heap) : Below w.heap.size w w5 :=
  ((bnext g4 (⟨e1, e2, e3, Nat.le_of_eq (by rw [e4]), fun k _ => by rw [e4]⟩ : Below w4.heap.size w4 X) g4.size).alloc (by rw [e4]; exact g4.size) o).grown k2 (by have := g4.size; rw [← e4] at this; simp; omega) hrow
theorem bk_past {w4 X w5 : World} {o : Obj} {row : Option Nat} {g : Nat} {T : TypeId} {cs : List Value} (hb : BK w4 g T cs) (k2 : (X.alloc o).grownBy w5 row) (hne : some g ≠ row) (e4 : X.heap = w4.heap) : BK w5 g T cs := by
  have h4 : BK X g T cs := by unfold BK at hb ⊢; rw [e4]; exact hb
  have := h4.alloc o
  exact (k2.block g this.lt hne).trans this
set_option maxRecDepth 4000 in
set_option maxHeartbeats 4000000 in
theorem iFmtQ_any {g : Nat} {ps : List QT} {w : World} {n : Nat} (hx : OQ w g ps) (hnn : ps.length = n) (hn : n ≤ 1048576) (hs : ∀ k, k < n → QIn (nthQ ps k)) :
    Calls Try.prog 41 #[.slice (some ⟨g, 0, none⟩) n n] w (GivesB w (.string (strQ ps))) := by
  subst hnn
  have HX := Lib.hid hx
  have HI := Lib.hid hs
  have HF : Hid (strQ ps = if ps.length = 0 then ⟨#[48]⟩ else ⟨(fmtQ ps).toArray⟩) := rfl
  have hgl := hx.lt
  clear hx hs
  obtain ⟨n, hnn⟩ : ∃ n, n = ps.length := ⟨_, rfl⟩
  have HL := Lib.hid hnn
  rw [← hnn] at hn HF HI ⊢
  clear hnn
  go_enter Try.func41, Try.ntmps41
  go_wp2
  go_loopw [3, 9] (fun v i wr => ∃ k : Nat, k ≤ n ∧ i = .int .i64 (k : Int) ∧ Hid (OKTx wr w.heap.size v (qBs (ps.take k))) ∧ Hid (Below w.heap.size w wr)) (fun _ i _ => n - (intOf i).toNat)
  case atStart => exact ⟨0, Nat.zero_le _, rfl, OKTx.lit w _ (Nat.le_refl _), (Below.refl _ _).alloc (Nat.le_refl _) _⟩
  case round =>
    obtain ⟨k, hk, rfl, HO, HB⟩ := hrel
    by_cases hlt : k < n
    · have OX := Lib.hid (HX.out.below HB.out)
      obtain ⟨A, m, c2, hm, hq⟩ := OX.out.at (k := k) (by rw [← HL.out]; exact hlt)
      have hin := HI.out k hlt
      have HQ := Lib.hid hq
      have HS : Hid ((ps.take (k + 1)) = ps.take k ++ [nthQ ps k]) := takeQ (by rw [← HL.out]; exact hlt)
      clear hq
      obtain ⟨x, hx⟩ : ∃ x, x = nthQ ps k := ⟨_, rfl⟩
      rw [← hx] at HQ hm hin HS
      clear hx
      have HE := Lib.hid (qB_eq x)
      have hm' : m ≤ 2000000 := by have := hin.2.2.2; omega
      have d1 : (decB x.1).size ≤ 20 := dec_len hin.1.1 hin.1.2
      have d2 : (decB x.2.2).size ≤ 20 := dec_len hin.2.1.1 hin.2.1.2
      obtain ⟨p, hp⟩ : ∃ p, p = x.1 := ⟨_, rfl⟩
      obtain ⟨q, hq⟩ : ∃ q, q = x.2.2 := ⟨_, rfl⟩
      obtain ⟨f1, hf1⟩ : ∃ f, f = decB q := ⟨_, rfl⟩
      obtain ⟨f2, hf2⟩ : ∃ f, f = decB p := ⟨_, rfl⟩
      obtain ⟨f3, hf3⟩ : ∃ f : ByteArray, f = ⟨(fmtD x.2.1).toArray⟩ := ⟨_, rfl⟩
      have d3 : f3.size ≤ 22020096 := by
        rw [hf3]
        have h1 := fmtD_len hin.2.2.1
        have h2 := hin.2.2.2
        show (fmtD x.2.1).toArray.size ≤ _
        simp only [List.size_toArray]
        omega
      rw [← hp, ← hf2] at d1
      rw [← hq, ← hf1] at d2
      rw [← hp, ← hq, ← hf1, ← hf2, ← hf3] at HE
      rw [← hp, ← hq] at HQ
      have C1 : Hid (∀ W, Calls Try.prog 88 #[.int .i64 q] W (fun e w' => e = .returned (.string f1) ∧ Below W.heap.size W w')) := fun W => by
        rw [hf1, hq]
        (refine (iDec_any (x.2.2.natAbs + 1) x.2.2 _ (by omega) hin.2.1.1 hin.2.1.2).mono ?_; rintro e w' ⟨rfl, rfl⟩; exact ⟨rfl, Below.refl _ _⟩)
      have C2 : Hid (∀ W, Calls Try.prog 88 #[.int .i64 p] W (fun e w' => e = .returned (.string f2) ∧ Below W.heap.size W w')) := fun W => by
        rw [hf2, hp]
        (refine (iDec_any (x.1.natAbs + 1) x.1 _ (by omega) hin.1.1 hin.1.2).mono ?_; rintro e w' ⟨rfl, rfl⟩; exact ⟨rfl, Below.refl _ _⟩)
      have C3 : Hid (∀ W, RI W A m x.2.1 → Calls Try.prog 84 #[.slice A m c2] W (fun e w' => e = .returned (.string f3) ∧ Below W.heap.size W w')) := fun W h => by
        rw [hf3]
        exact iDecs_any _ h hm' hin.2.2.1
      clear hf1 hf2 hf3 hp hq hin hm hm'
      have hlen : Hid ((qBs (ps.take k)).length ≤ 2000000) := by show (qBs (ps.take k)).length ≤ 2000000; rw [qBs, List.length_map, List.length_take, ← HL.out]; omega
      have HS2 : Hid (qBs (ps.take (k + 1)) = qBs (ps.take k) ++ [qB x]) := by show qBs (ps.take (k + 1)) = _; rw [HS.out]; simp [qBs]
      obtain ⟨⟨q1, q2, q3⟩, -⟩ := HQ.out wr (Below.refl _ _)
      go_wp2_with fail
      obtain ⟨w1, e1⟩ : ∃ w1 : World, w1 = wr.alloc (Obj.cells #[Value.int IntKind.i64 p, Value.slice A m c2, Value.int IntKind.i64 q] 70) := ⟨_, rfl⟩
      have b1 : Below wr.heap.size wr w1 := by rw [e1]; exact (Below.refl _ _).alloc (Nat.le_refl _) _
      obtain ⟨bx, hbx⟩ : ∃ g, g = wr.heap.size := ⟨_, rfl⟩
      have K1 : Hid (BK w1 bx 70 [Value.int IntKind.i64 p, Value.slice A m c2, Value.int IntKind.i64 q]) := by
        rw [e1, hbx]; exact BK.new wr _ _
      have g1 : Below w.heap.size w w1 := bnext HB.out b1 HB.out.size
      have O1 := Lib.hid (HO.out.below b1)
      have R1 : RI w1 A m x.2.1 := (HQ.out w1 b1).2
      rw [← e1, ← hbx]
      have hbx2 : w.heap.size ≤ bx := by rw [hbx]; exact HB.out.size
      have HN : Hid (∀ j, Value.ownBlock _ = some j → j < bx) := fun j hj => by rw [hbx]; exact (HO.out.lt j hj).2
      clear e1 hbx q1 q2 q3
      have z1 : ¬9223372036854775807 < f1.size + 2 := by omega
      have z2 : ¬9223372036854775807 < f1.size + 2 + f2.size := by omega
      have z3 : ¬9223372036854775807 < f1.size + 2 + f2.size + 1 := by omega
      have z4 : ¬9223372036854775807 < f1.size + 2 + f2.size + 1 + f3.size := by omega
      obtain ⟨q1, q2, q3⟩ := K1.out.three
      go_region_held3 (fun w' => w'.cell? ⟨bx, 0, none⟩ = some (Value.int IntKind.i64 p) ∧ w'.cell? ⟨bx, 1, none⟩ = some (Value.slice A m c2) ∧ w'.cell? ⟨bx, 2, none⟩ = some (Value.int IntKind.i64 q)) (first | exact ⟨q1, q2, q3⟩ | exact K2.out.three | exact K3.out.three | exact K4.out.three | exact (K4.out.alloc _).three | exact K5.out.three) (first
        | (go_at_call 88; (with_reducible refine (C1.out _).mono ?_); rintro e w2 ⟨rfl, b2⟩; have b2 : Below w1.heap.size w1 w2 := ⟨b2.os, b2.tape, b2.output, b2.size, b2.block⟩; have K2 := Lib.hid (K1.out.below b2 K1.out.lt))
        | (go_at_call 88; (with_reducible refine (C2.out _).mono ?_); rintro e w3 ⟨rfl, b3⟩; have b3 : Below w2.heap.size w2 w3 := ⟨b3.os, b3.tape, b3.output, b3.size, b3.block⟩; have K3 := Lib.hid (K2.out.below b3 K2.out.lt); have R3 : RI w3 A m x.2.1 := (R1.below b2).below b3)
        | (go_at_call 84; (with_reducible refine (C3.out _ ?_).mono ?_); exact R3; rintro e w4 ⟨rfl, b4⟩; have b4 : Below w3.heap.size w3 w4 := ⟨b4.os, b4.tape, b4.output, b4.size, b4.block⟩; have K4 := Lib.hid (K3.out.below b4 K3.out.lt); have g4 : Below w.heap.size w w4 := bnext (bnext (bnext g1 b2 g1.size) b3 (Nat.le_trans g1.size b2.size)) b4 (Nat.le_trans g1.size (Nat.le_trans b2.size b3.size)); have O4 := Lib.hid (((O1.out.below b2).below b3).below b4))
        | (refine stepAppTx rfl (.tmp 13) (.tmp 27) rfl w.heap.size _ (qBs (ps.take k)) (f1 ++ ⟨#[58, 113]⟩ ++ f2 ++ ⟨#[58]⟩ ++ f3) w4.heap.size 1 (by first | rfl | simp [Act.eval, Act.put]) (by first | rfl | simp [Act.eval, Act.put]) (okAlloc O4.out rfl rfl rfl rfl) (by simp) (by have := hlen.out; omega) (by have := g4.size; simp; omega) ?_; intro v' w5 k1 k2; have O5 := Lib.hid k1; have g5 := Lib.hid (app_past g4 k2 (fun j hj => (O4.out.lt j hj).1) rfl rfl rfl rfl); have K5 := Lib.hid (bk_past K4.out k2 (fun he => Nat.lt_irrefl _ (HN.out _ he.symm)) rfl)))
      go_wp2
      go_roundw
      case rel => exact ⟨k + 1, by omega, by go_num, by rw [HS2.out, ← HE.out]; exact O5, g5⟩
      case measure => simp [intOf]; omega
    · obtain rfl : k = n := by omega
      have ht : ps.take k = ps := List.take_of_length_le (Nat.le_of_eq HL.out.symm)
      rw [ht] at HO
      clear ht
      by_cases hz : k = 0
      · have hl0 : qBs ps = decs [] := by rw [List.eq_nil_of_length_eq_zero (HL.out.symm.trans hz)]; rfl
        rw [hl0] at HO
        obtain ⟨A0, c0, rfl⟩ := HO.out.form0
        have HF2 : Hid (strQ ps = ⟨#[48]⟩) := by show strQ ps = _; rw [HF.out, if_pos hz]
        clear hl0 hz
        go_wp2
        go_ret
        exact ⟨by rw [HF2.out]; rfl, HB.out⟩
      have HF2 : Hid (strQ ps = ⟨(fmtQ ps).toArray⟩) := by show strQ ps = _; rw [HF.out, if_neg hz]
      have hql : (qBs ps).length = k := by rw [qBs, List.length_map, HL.out]
      obtain ⟨h, c2, rfl, hcap, hg, hcl⟩ := HO.out.form (by omega)
      have hfl := fmtQ_len (ps := ps) (fun j hj => HI.out j (by rw [HL.out]; exact hj))
      rw [← HL.out] at hfl
      have hj := Lib.hid (Try.strings_Join h 0 c2 (qBs ps) ⟨#[44, 32]⟩ wr hcl hg (by omega) hcap (by
        show (fmtQ ps).length ≤ _
        omega))
      have hq0 : ¬ (((qBs ps).length : Nat) : Int) = 0 := by omega
      clear hcl hql
      go_wp2_with (go_at_call 83; refine hj.out.mono ?_; rintro e w3 ⟨rfl, b3⟩)
      go_ret
      exact ⟨by rw [HF2.out]; rfl, HB.out.trans (b3.mono HB.out.size)⟩

set_option maxRecDepth 4000 in
set_option maxHeartbeats 4000000 in
theorem sFmtQ_any {g : Nat} {ps : List QT} {w : World} {n : Nat} (hx : OQ w g ps) (hnn : ps.length = n) (hn : n ≤ 1048576) (hs : ∀ k, k < n → QIn (nthQ ps k)) :
    Calls Try.prog 39 #[.slice (some ⟨g, 0, none⟩) n n] w (GivesB w (.string (strQ ps))) := by
  subst hnn
  have HX := Lib.hid hx
  have HI := Lib.hid hs
  have HF : Hid (strQ ps = if ps.length = 0 then ⟨#[48]⟩ else ⟨(fmtQ ps).toArray⟩) := rfl
  clear hx hs
  obtain ⟨n, hnn⟩ : ∃ n, n = ps.length := ⟨_, rfl⟩
  have HL := Lib.hid hnn
  rw [← hnn] at hn HF HI ⊢
  clear hnn
  go_enter Try.func39, Try.ntmps39
  by_cases hz : n = 0
  · have HF2 : Hid (strQ ps = ⟨#[48]⟩) := by show strQ ps = _; rw [HF.out, if_pos hz]
    subst hz
    go_wp2
    go_ret
    exact ⟨by rw [HF2.out]; rfl, Below.refl _ _⟩
  have HF2 : Hid (strQ ps = ⟨(fmtQ ps).toArray⟩) := by show strQ ps = _; rw [HF.out, if_neg hz]
  have hz' : ((n : Int) == 0) = false := by simp; omega
  go_wp2
  go_loopw [3, 4] (fun v i wr => ∃ (k : Nat) (s : ByteArray), k ≤ n ∧ i = .int .i64 (k : Int) ∧ v = .string s ∧ s.size ≤ 23000010 * k ∧ Hid (s.data.toList = fmtQ (ps.take k)) ∧ Hid (Below w.heap.size w wr)) (fun _ i _ => n - (intOf i).toNat)
  case atStart => exact ⟨0, ⟨#[]⟩, Nat.zero_le _, rfl, rfl, by exact Nat.le_refl 0, rfl, Below.refl _ _⟩
  case round =>
    obtain ⟨k, s, hk, rfl, rfl, hs, HSS, HB⟩ := hrel
    by_cases hlt : k < n
    · have OX := Lib.hid (HX.out.below HB.out)
      obtain ⟨A, m, c2, hm, hq⟩ := OX.out.at (k := k) (by rw [← HL.out]; exact hlt)
      have hin := HI.out k hlt
      have HQ := Lib.hid hq
      have HS : Hid ((ps.take (k + 1)) = ps.take k ++ [nthQ ps k]) := takeQ (by rw [← HL.out]; exact hlt)
      clear hq
      obtain ⟨x, hx⟩ : ∃ x, x = nthQ ps k := ⟨_, rfl⟩
      rw [← hx] at HQ hm hin HS
      clear hx
      have HE := Lib.hid (qB_eq x)
      have hm' : m ≤ 2000000 := by have := hin.2.2.2; omega
      have d1 : (decB x.1).size ≤ 20 := dec_len hin.1.1 hin.1.2
      have d2 : (decB x.2.2).size ≤ 20 := dec_len hin.2.1.1 hin.2.1.2
      obtain ⟨p, hp⟩ : ∃ p, p = x.1 := ⟨_, rfl⟩
      obtain ⟨q, hq⟩ : ∃ q, q = x.2.2 := ⟨_, rfl⟩
      obtain ⟨f1, hf1⟩ : ∃ f, f = decB q := ⟨_, rfl⟩
      obtain ⟨f2, hf2⟩ : ∃ f, f = decB p := ⟨_, rfl⟩
      obtain ⟨f3, hf3⟩ : ∃ f : ByteArray, f = ⟨(fmtD x.2.1).toArray⟩ := ⟨_, rfl⟩
      have d3 : f3.size ≤ 22020096 := by
        rw [hf3]
        have h1 := fmtD_len hin.2.2.1
        have h2 := hin.2.2.2
        show (fmtD x.2.1).toArray.size ≤ _
        simp only [List.size_toArray]
        omega
      rw [← hp, ← hf2] at d1
      rw [← hq, ← hf1] at d2
      rw [← hp, ← hq, ← hf1, ← hf2, ← hf3] at HE
      rw [← hp, ← hq] at HQ
      have C1 : Hid (∀ W, Calls Try.prog 86 #[.int .i64 q] W (fun e w' => e = .returned (.string f1) ∧ Below W.heap.size W w')) := fun W => by
        rw [hf1, hq]
        (refine (sDec_any x.2.2 hin.2.1.1 hin.2.1.2).mono ?_; exact fun e w' h => h)
      have C2 : Hid (∀ W, Calls Try.prog 86 #[.int .i64 p] W (fun e w' => e = .returned (.string f2) ∧ Below W.heap.size W w')) := fun W => by
        rw [hf2, hp]
        (refine (sDec_any x.1 hin.1.1 hin.1.2).mono ?_; exact fun e w' h => h)
      have C3 : Hid (∀ W, RI W A m x.2.1 → Calls Try.prog 82 #[.slice A m c2] W (fun e w' => e = .returned (.string f3) ∧ Below W.heap.size W w')) := fun W h => by
        rw [hf3]
        exact sDecs_any _ h hm' hin.2.2.1
      clear hf1 hf2 hf3 hp hq hin hm hm'
      obtain ⟨⟨q1, q2, q3⟩, -⟩ := HQ.out wr (Below.refl _ _)
      by_cases hk0 : k = 0
      · have hk1 : ¬ (0 : Int) < (k : Int) := by omega
        have h00 : Hid (ps.take k = []) := by show ps.take k = []; rw [hk0]; rfl
        clear hk0
        obtain ⟨s', hs'⟩ : ∃ s' : ByteArray, s' = s := ⟨_, rfl⟩
        have hsz : s'.size ≤ 23000010 * k + 2 := by rw [hs']; omega
        have HS3 : Hid ((s' ++ (f1 ++ ⟨#[58, 113]⟩ ++ f2 ++ ⟨#[58]⟩ ++ f3)).data.toList = fmtQ (ps.take (k + 1))) := by
          show _ = _
          rw [HE.out, HS.out, h00.out, List.nil_append, fmtQ_one, ByteArray.data_append, Array.toList_append, hs', HSS.out, h00.out]
          rfl
        rw [← hs']
        clear hs'
        have z0 : ¬9223372036854775807 < s'.size + f1.size := by omega
        have z1 : ¬9223372036854775807 < s'.size + f1.size + 2 := by omega
        have z2 : ¬9223372036854775807 < s'.size + f1.size + 2 + f2.size := by omega
        have z3 : ¬9223372036854775807 < s'.size + f1.size + 2 + f2.size + 1 := by omega
        have z4 : ¬9223372036854775807 < s'.size + f1.size + 2 + f2.size + 1 + f3.size := by omega
        go_wp2_with fail
        go_region_held3 (fun w' => w'.cell? ⟨g, k * 3, none⟩ = some (Value.int IntKind.i64 p) ∧ w'.cell? ⟨g, k * 3 + 1, none⟩ = some (Value.slice A m c2) ∧ w'.cell? ⟨g, k * 3 + 2, none⟩ = some (Value.int IntKind.i64 q)) (first | exact ⟨q1, q2, q3⟩ | exact (HQ.out _ b2).1 | exact (HQ.out _ b3).1 | exact (HQ.out _ b4).1) (first
          | (go_at_call 86; (with_reducible refine (C1.out _).mono ?_); rintro e w2 ⟨rfl, b2⟩; have b2 : Below wr.heap.size wr w2 := ⟨b2.os, b2.tape, b2.output, b2.size, b2.block⟩)
          | (go_at_call 86; (with_reducible refine (C2.out _).mono ?_); rintro e w3 ⟨rfl, b3⟩; have b3 : Below wr.heap.size wr w3 := bnext b2 ⟨b3.os, b3.tape, b3.output, b3.size, b3.block⟩ b2.size)
          | (go_at_call 82; (with_reducible refine (C3.out _ ?_).mono ?_); exact (HQ.out _ b3).2; rintro e w4 ⟨rfl, b4⟩; have b4 : Below wr.heap.size wr w4 := bnext b3 ⟨b4.os, b4.tape, b4.output, b4.size, b4.block⟩ b3.size))
        go_wp2
        go_roundw
        case rel =>
          refine ⟨k + 1, s' ++ f1 ++ ⟨#[58, 113]⟩ ++ f2 ++ ⟨#[58]⟩ ++ f3, by omega, by go_num, rfl, ?_, ?_, bnext HB.out b4 HB.out.size⟩
          · simp only [ByteArray.size_append, show ByteArray.size ⟨#[58, 113]⟩ = 2 from rfl, show ByteArray.size ⟨#[58]⟩ = 1 from rfl]; omega
          · show _ = _
            rw [← HS3.out]
            simp only [ByteArray.data_append, Array.toList_append, List.append_assoc]
        case measure => simp [intOf]; omega
      · have hk1 : (0 : Int) < (k : Int) := by omega
        have hne : Hid (ps.take k ≠ []) := by
          show ps.take k ≠ []
          intro h
          have := congrArg List.length h
          rw [List.length_take, ← HL.out] at this
          simp at this
          omega
        clear hk0
        have zz : ¬9223372036854775807 < s.size + 2 := by omega
        go_wp2_with fail
        obtain ⟨s', hs'⟩ : ∃ s' : ByteArray, s' = s ++ ⟨#[44, 32]⟩ := ⟨_, rfl⟩
        have hsz : s'.size ≤ 23000010 * k + 2 := by rw [hs', ByteArray.size_append, show ByteArray.size ⟨#[44, 32]⟩ = 2 from rfl]; omega
        have HS3 : Hid ((s' ++ (f1 ++ ⟨#[58, 113]⟩ ++ f2 ++ ⟨#[58]⟩ ++ f3)).data.toList = fmtQ (ps.take (k + 1))) := by
          show _ = _
          rw [HE.out, HS.out, fmtQ_snoc hne.out, ByteArray.data_append, Array.toList_append, hs', ByteArray.data_append, Array.toList_append, HSS.out]
        rw [← hs']
        clear hs'
        have z0 : ¬9223372036854775807 < s'.size + f1.size := by omega
        have z1 : ¬9223372036854775807 < s'.size + f1.size + 2 := by omega
        have z2 : ¬9223372036854775807 < s'.size + f1.size + 2 + f2.size := by omega
        have z3 : ¬9223372036854775807 < s'.size + f1.size + 2 + f2.size + 1 := by omega
        have z4 : ¬9223372036854775807 < s'.size + f1.size + 2 + f2.size + 1 + f3.size := by omega
        go_wp2_with fail
        go_region_held3 (fun w' => w'.cell? ⟨g, k * 3, none⟩ = some (Value.int IntKind.i64 p) ∧ w'.cell? ⟨g, k * 3 + 1, none⟩ = some (Value.slice A m c2) ∧ w'.cell? ⟨g, k * 3 + 2, none⟩ = some (Value.int IntKind.i64 q)) (first | exact ⟨q1, q2, q3⟩ | exact (HQ.out _ b2).1 | exact (HQ.out _ b3).1 | exact (HQ.out _ b4).1) (first
          | (go_at_call 86; (with_reducible refine (C1.out _).mono ?_); rintro e w2 ⟨rfl, b2⟩; have b2 : Below wr.heap.size wr w2 := ⟨b2.os, b2.tape, b2.output, b2.size, b2.block⟩)
          | (go_at_call 86; (with_reducible refine (C2.out _).mono ?_); rintro e w3 ⟨rfl, b3⟩; have b3 : Below wr.heap.size wr w3 := bnext b2 ⟨b3.os, b3.tape, b3.output, b3.size, b3.block⟩ b2.size)
          | (go_at_call 82; (with_reducible refine (C3.out _ ?_).mono ?_); exact (HQ.out _ b3).2; rintro e w4 ⟨rfl, b4⟩; have b4 : Below wr.heap.size wr w4 := bnext b3 ⟨b4.os, b4.tape, b4.output, b4.size, b4.block⟩ b3.size))
        go_wp2
        go_roundw
        case rel =>
          refine ⟨k + 1, s' ++ f1 ++ ⟨#[58, 113]⟩ ++ f2 ++ ⟨#[58]⟩ ++ f3, by omega, by go_num, rfl, ?_, ?_, bnext HB.out b4 HB.out.size⟩
          · simp only [ByteArray.size_append, show ByteArray.size ⟨#[58, 113]⟩ = 2 from rfl, show ByteArray.size ⟨#[58]⟩ = 1 from rfl]; omega
          · show _ = _
            rw [← HS3.out]
            simp only [ByteArray.data_append, Array.toList_append, List.append_assoc]
        case measure => simp [intOf]; omega
    · obtain rfl : k = n := by omega
      have ht : ps.take k = ps := List.take_of_length_le (Nat.le_of_eq HL.out.symm)
      rw [ht] at HSS
      have e : s = ⟨(fmtQ ps).toArray⟩ := by rw [← HSS.out]
      clear HSS ht
      go_wp2
      go_ret
      exact ⟨by rw [HF2.out, e]; rfl, HB.out⟩
end Go.Proofs.Ytemafljipkcgcaa
