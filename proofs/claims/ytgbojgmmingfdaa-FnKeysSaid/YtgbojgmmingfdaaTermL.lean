/- Terms: an exponent list and a coefficient: comparisons and marks of slices of them, as the statements make them. -/
import Derived.Test.YtgbojgmmingfdaaTermA
import Derived.Test.YtgbojgmmingfdaaWords
import Derived.Test.YtgbojgmmingfdaaShapes
import Derived.Test.YtgbojgmmingfdaaQDraw
import Derived.Test.YtgbojgmmingfdaaShutW
namespace Go.Proofs.Ytgbojgmmingfdaa
open Go.RowKit

/-- The value is a slice of terms that the call owns, its fields in the words of parts. -/
def OTp (w : World) (base b : Nat) (v : Value) (ps : List (List Int × Int)) (cells : List Value) : Prop := OF w base b 81 2 v ps.length (partF ps) cells
theorem OT.tp {w : World} {base b : Nat} {v : Value} {ps : List (List Int × Int)} {cells : List Value} (h : OT w base b v ps cells) : OTp w base b v ps cells := by
  unfold OT at h
  rw [tF_part] at h
  exact h
theorem OTp.below {w w' : World} {base b : Nat} {v : Value} {ps : List (List Int × Int)} {cells : List Value} (h : OTp w base b v ps cells) (hb : Below w.heap.size w w') : OTp w' base b v ps cells := OF.below h hb
theorem eqTerm_any {A C : Option Addr} {n m : Nat} {xs : List Int} {w : World} (c d : Nat) (p : Int) (hx : RI w A n xs) (hy : RI w C m xs) (hn : n ≤ 9223372036854775807) :
    Calls Try.prog 67 #[.agg #[.slice A n c, .int .i64 p], .agg #[.slice C m d, .int .i64 p]] w (GivesB w (.bool true)) := by
  obtain rfl : n = m := hx.1.symm.trans hy.1
  go_enter Try.func67, Try.ntmps67
  go_wp2_with fail
  refine (eqI_any true _ _ ((hx.alloc _).alloc _) ((hy.alloc _).alloc _) (by simp) hn hn).mono ?_
  rintro e w1 ⟨rfl, q, rfl⟩
  go_wp2
  go_ret
  exact ⟨rfl, below_drewN (((Below.refl _ _).alloc (Nat.le_refl _) _).alloc (by simp) _) _⟩

theorem OTp.cell {w : World} {base b g n c k : Nat} {ps : List (List Int × Int)} {cells : List Value} (h : OTp w base b (.slice (some ⟨g, 0, none⟩) n c) ps cells) (hk : k < ps.length) :
    ∃ A' n' c', w.cell? ⟨g, k * 2, none⟩ = some (.slice A' n' c') ∧ cells[k * 2]? = some (.slice A' n' c') ∧ OI w b (.slice A' n' c') (nthP ps k).1 ∧ n' ≤ c' ∧ w.cell? ⟨g, k * 2 + 1, none⟩ = some (.int .i64 (nthP ps k).2) := by
  have hn : n = ps.length := by
    obtain ⟨A, c', hv, _⟩ := OF.form h
    injection hv
  subst hn
  obtain ⟨u, hu, hf⟩ := h.2.1.at_ (partF_at0 hk)
  have hf' : OI w b u (nthP ps k).1 := hf
  obtain ⟨A', n', c', rfl, _, hcc, _⟩ := hf'.form
  obtain ⟨u', hu', hf2⟩ := h.2.1.at_ (partF_at1 hk)
  have hf2' : u' = .int .i64 (nthP ps k).2 := hf2
  subst hf2'
  exact ⟨A', n', c', by rw [OF.cellF h (by omega), hu], hu, hf', hcc, by rw [OF.cellF h (by omega), hu']⟩

set_option maxRecDepth 100000 in
theorem eqTermS_any {v v' : Value} {base b base' b' : Nat} {ps : List (List Int × Int)} {cells cells' : List Value} {w : World} (h1 : OTp w base b v ps cells) (h2 : OTp w base' b' v' ps cells') (hn : ps.length ≤ 1000000000) :
    Calls Try.prog 12 #[v, v'] w (GivesB w (.bool true)) := by
  obtain ⟨A, c, rfl, hc, _⟩ := OF.form h1
  obtain ⟨A', c', rfl, hc', _⟩ := OF.form h2
  obtain ⟨n, hn'⟩ : ∃ n, n = ps.length := ⟨_, rfl⟩
  rw [← hn'] at hn hc hc' ⊢
  have HN := Lib.hid hn'
  rw [← hn'] at h1 h2
  clear hn'
  go_enter Try.func12, Try.ntmps12
  go_wp2
  go_loopw [5] (fun i wr => ∃ k : Nat, k ≤ n ∧ i = .int .i64 k ∧ Below w.heap.size w wr) (fun i _ => n - (intOf i).toNat)
  case atStart => exact ⟨0, Nat.zero_le _, rfl, Below.refl _ _⟩
  case round =>
    obtain ⟨k, hk, rfl, hbl⟩ := hrel
    by_cases hlt : k < n
    · have g1 := OF.below h1 hbl
      have g2 := OF.below h2 hbl
      obtain ⟨G, cc, hG, _⟩ := OF.shape g1 (by rw [← HN.out]; omega)
      obtain ⟨G', cc', hG', _⟩ := OF.shape g2 (by rw [← HN.out]; omega)
      obtain ⟨rfl, e2, e3⟩ := slice_inj hG
      obtain ⟨rfl, e2', e3'⟩ := slice_inj hG'
      clear hG hG' e2 e3 e2' e3'
      obtain ⟨A1, n1, c1, x1, _, x2, _, x3⟩ := OTp.cell g1 (k := k) (by rw [← HN.out]; exact hlt)
      obtain ⟨A2, n2, c2, y1, _, y2, _, y3⟩ := OTp.cell g2 (k := k) (by rw [← HN.out]; exact hlt)
      clear g1 g2
      go_wp2_with fail
      go_still_tail 8, (by kernel_rfl)
      change wpList _ _ _ _ _ wr.drew
      obtain ⟨w2, hw2⟩ : ∃ w2, w2 = wr.drew := ⟨_, rfl⟩
      have b2 : Below wr.heap.size wr w2 := by rw [hw2]; exact (Below.refl _ _).drew
      rw [← hw2]
      clear hw2
      have b2' := bnext hbl b2 hbl.size
      go_wp2_with (go_at_call 67; refine (eqTerm_any _ _ _ (x2.below b2).ri (y2.below b2).ri x2.le.1).mono ?_; rintro e w3 ⟨rfl, b3⟩)
      go_roundw
      case rel => exact ⟨k + 1, by omega, by go_num, bnext b2' b3 b2'.size⟩
      case measure => simp [intOf]; omega
    · go_wp2
      go_ret
      exact ⟨rfl, hbl⟩

set_option maxRecDepth 100000 in
theorem markTermS_any {v : Value} {base b hi : Nat} {ps : List (List Int × Int)} {cells : List Value} {w : World} (k0 : Int) (h : OTp w base b v ps cells) (hin : In base hi v cells) (h0 : 0 ≤ k0) (h1 : k0 ≤ 100000000000)
    (hn : ps.length ≤ 1000000) (hw : ∀ x ∈ partF ps, wF x ≤ 100000) :
    Calls Try.prog 15 #[v, .int .i64 k0] w (fun e w' => ∃ cells', e = .returned (.int .i64 (kF (partF ps) k0 (ps.length * 2))) ∧ OF w' base b 81 2 v ps.length (markedF (partF ps) k0 (ps.length * 2)) cells' ∧ Within base hi w w') := by
  obtain ⟨A, c, rfl, hc, _⟩ := OF.form h
  obtain ⟨n, hn'⟩ : ∃ n, n = ps.length := ⟨_, rfl⟩
  have h' : OF w base b 81 2 (.slice A n c) n (partF ps) cells := by rw [hn']; exact h
  rw [← hn'] at hn hc hin ⊢
  have HN := Lib.hid hn'
  have HW := Lib.hid hw
  clear hn' hw h
  go_enter Try.func15, Try.ntmps15
  go_wp2
  go_loopw [1, 5] (fun k i wr => ∃ (q : Nat) (cs : List Value), q ≤ n ∧ k = .int .i64 (kF (partF ps) k0 (q * 2)) ∧ i = .int .i64 q ∧ OF wr base b 81 2 (.slice A n c) n (markedF (partF ps) k0 (q * 2)) cs ∧ In base hi (.slice A n c) cs ∧ Within base hi w wr) (fun _ i _ => n - (intOf i).toNat)
  case atStart => exact ⟨0, cells, Nat.zero_le _, rfl, rfl, by rw [Nat.zero_mul, markedF_zero]; exact h', hin, Within.refl _ _ _⟩
  case round =>
    clear h' hin
    obtain ⟨q, cs, hq, rfl, rfl, ho, hin, hwi⟩ := hrel
    by_cases hlt : q < n
    · obtain ⟨G, cc, hG, _⟩ := OF.shape ho (by omega)
      obtain ⟨rfl, e2, e3⟩ := slice_inj hG
      clear e2 e3
      have f0 := partF_at0 (ps := ps) (k := q) (by rw [← HN.out]; exact hlt)
      have f1 := partF_at1 (ps := ps) (k := q) (by rw [← HN.out]; exact hlt)
      have F0 := Lib.hid f0
      have F1 := Lib.hid f1
      obtain ⟨u, hu, hf⟩ := ho.2.1.at_ (markedF_new f0)
      have hf' : OI wr b u (nthP ps q).1 := hf
      obtain ⟨A1, n1, c1, rfl, hri, hcc, hnn, _⟩ := hf'.form
      obtain ⟨u', hu', hf2⟩ := ho.2.1.at_ ((markedF_at (m := q * 2) (List.getElem?_eq_some_iff.1 f1).1).trans (by rw [if_neg (by omega), getF_at f1]))
      have hf2' : u' = .int .i64 (nthP ps q).2 := hf2
      subst hf2'
      have c0 : wr.cell? ⟨G, q * 2, none⟩ = some (.slice A1 n1 c1) := by rw [OF.cellF ho (by omega), hu]
      have kb := kF_bound (k0 := k0) HW.out (by omega) (q * 2)
      have hl : n1 ≤ 100000 := by
        have := HW.out _ (List.mem_of_getElem? f0)
        rw [← hri.1]; exact this
      have kb2 : kF (partF ps) k0 (q * 2) ≤ 300000000000 := by
        have : q * 2 * 100000 ≤ 1000000 * 2 * 100000 := by omega
        omega
      have kb1 := kb.1
      obtain ⟨K, hK⟩ : ∃ K, K = kF (partF ps) k0 (q * 2) := ⟨_, rfl⟩
      have HK := Lib.hid hK
      rw [← hK] at kb1 kb2 ⊢
      have HU := Lib.hid hu
      have HU' := Lib.hid hu'
      have HI := Lib.hid hri.1
      clear f0 f1 hf kb hG hK hri hu hu'
      have HO := Lib.hid ho
      have b4 := hwi.size
      have hbk := hf'.lt
      clear ho
      go_wp2_with fail
      refine (markI_any K hf' (by omega) (by omega) (by omega)).mono ?_
      rintro e w1 ⟨rfl, o1, g1⟩
      have s1 := OF.setInner HO.out (by decide) (markedF_new F0.out) HU.out g1 o1
      have e1 : (markedF (partF ps) k0 (q * 2)).set (q * 2) (.inr (upFrom K n1)) = markedF (partF ps) k0 (q * 2 + 1) := by
        rw [← markedF_step F0.out, ← HK.out, ← HI.out]; rfl
      rw [e1] at s1
      have hm1 := markedF_new (k0 := k0) F1.out
      have c1' : w1.cell? ⟨G, q * 2 + 1, none⟩ = some (.int .i64 (nthP ps q).2) := by rw [OF.cellF s1 (by omega), HU'.out]
      have f1' := OF.frozenF s1 (q * 2 + 1)
      have ST := Lib.hid (OF.setInt s1 (by decide) hm1 (K + n1))
      have HIN := Lib.hid hin
      have HWI := Lib.hid hwi
      clear s1 e1 hm1 hin hwi hf'
      go_wp2
      have ek : kF (partF ps) k0 (q * 2 + 1) = K + n1 := by rw [kF_step F0.out, ← HK.out, ← HI.out]; rfl
      have ek2 : kF (partF ps) k0 ((q + 1) * 2) = K + n1 + 1 := by
        rw [show (q + 1) * 2 = q * 2 + 1 + 1 by omega, kF_step F1.out, ek]; rfl
      have em : (markedF (partF ps) k0 (q * 2 + 1)).set (q * 2 + 1) (.inl (K + n1)) = markedF (partF ps) k0 ((q + 1) * 2) := by
        rw [show (q + 1) * 2 = q * 2 + 1 + 1 by omega, ← markedF_step F1.out, ek]; rfl
      have hG2 := HIN.out.1 G rfl
      go_roundw
      case rel =>
        refine ⟨q + 1, cs.set (q * 2 + 1) (.int .i64 (K + n1)), by omega, by rw [ek2], by go_num, by rw [← em]; exact ST.out.1, ⟨HIN.out.1, ?_⟩, ?_⟩
        · intro u hu k hk
          rcases List.mem_or_eq_of_mem_set hu with h | rfl
          · exact HIN.out.2 u h k hk
          · simp [Value.ownBlock] at hk
        · exact (HWI.out.grown g1 (fun g e => HIN.out.2 _ (List.mem_of_getElem? HU.out) g e)).grown ST.out.2 (fun g e => by injection e with e; subst e; exact hG2)
      case measure => simp [intOf]; omega
    · obtain rfl : q = n := by omega
      have HO := Lib.hid ho
      clear ho
      go_wp2
      go_ret
      exact ⟨cs, rfl, HO.out, hwi⟩

set_option maxRecDepth 100000 in
theorem heldTermS_any {v : Value} {base b : Nat} {ps : List (List Int × Int)} {cells : List Value} {w : World} (k0 : Int) (h : OF w base b 81 2 v ps.length (markedF (partF ps) k0 (ps.length * 2)) cells) (h0 : 0 ≤ k0) (h1 : k0 ≤ 100000000000)
    (hn : ps.length ≤ 1000000) (hw : ∀ x ∈ partF ps, wF x ≤ 100000) :
    Calls Try.prog 16 #[v, .int .i64 k0] w (Gives w (.int .i64 (kF (partF ps) k0 (ps.length * 2)))) := by
  obtain ⟨A, c, rfl, hc, _⟩ := OF.form h
  obtain ⟨n, hn'⟩ : ∃ n, n = ps.length := ⟨_, rfl⟩
  rw [← hn'] at hn hc h ⊢
  have HN := Lib.hid hn'
  have HW := Lib.hid hw
  clear hn' hw
  go_enter Try.func16, Try.ntmps16
  go_wp2
  go_loopw [1, 5] (fun k i wr => ∃ (q : Nat), q ≤ n ∧ k = .int .i64 (kF (partF ps) k0 (q * 2)) ∧ i = .int .i64 q ∧ Quiet w wr) (fun _ i _ => n - (intOf i).toNat)
  case atStart => exact ⟨0, Nat.zero_le _, rfl, rfl, (by first | exact ⟨_, rfl⟩ | exact ⟨_, (World.drewN_drewN _ _ _).symm⟩ | exact Quiet.refl _ | (simp only [World.drewN_drewN]; exact ⟨_, rfl⟩))⟩
  case round =>
    obtain ⟨q, hq, rfl, rfl, ⟨qq, rfl⟩⟩ := hrel
    by_cases hlt : q < n
    · obtain ⟨G, cc, hG, _⟩ := OF.shape h (by omega)
      obtain ⟨rfl, e2, e3⟩ := slice_inj hG
      clear e2 e3 hG
      have f0 := partF_at0 (ps := ps) (k := q) (by rw [← HN.out]; exact hlt)
      have f1 := partF_at1 (ps := ps) (k := q) (by rw [← HN.out]; exact hlt)
      have F0 := Lib.hid f0
      have F1 := Lib.hid f1
      obtain ⟨u, hu, hf⟩ := h.2.1.at_ (markedF_old (k0 := k0) (m := n * 2) f0 (by omega))
      have hf' : OI w b u (upFrom (kF (partF ps) k0 (q * 2)) (nthP ps q).1.length) := hf
      obtain ⟨A1, n1, c1, rfl, hri, hcc, hnn, _⟩ := hf'.form
      obtain ⟨u', hu', hf2⟩ := h.2.1.at_ (markedF_old (k0 := k0) (m := n * 2) f1 (by omega))
      have hf2' : u' = .int .i64 (kF (partF ps) k0 (q * 2 + 1)) := hf2
      subst hf2'
      have kb := kF_bound (k0 := k0) HW.out (by omega) (q * 2)
      have hl1 : (nthP ps q).1.length = n1 := by have := hri.1; rwa [upFrom_len] at this
      rw [hl1] at hri
      have hl : n1 ≤ 100000 := by
        have := HW.out _ (List.mem_of_getElem? f0)
        rw [← hl1]; exact this
      have kb2 : kF (partF ps) k0 (q * 2) ≤ 300000000000 := by
        have : q * 2 * 100000 ≤ 1000000 * 2 * 100000 := by omega
        omega
      have kb1 := kb.1
      have ek : kF (partF ps) k0 (q * 2 + 1) = kF (partF ps) k0 (q * 2) + n1 := by rw [kF_step F0.out, ← hl1]; rfl
      have ek2 : kF (partF ps) k0 ((q + 1) * 2) = kF (partF ps) k0 (q * 2) + n1 + 1 := by
        rw [show (q + 1) * 2 = q * 2 + 1 + 1 by omega, kF_step F1.out, ek]; rfl
      rw [ek] at hu'
      have c0 : w.cell? ⟨G, q * 2, none⟩ = some (.slice A1 n1 c1) := by rw [OF.cellF h (by omega), hu]
      have c1' : w.cell? ⟨G, q * 2 + 1, none⟩ = some (.int .i64 (kF (partF ps) k0 (q * 2) + n1)) := by rw [OF.cellF h (by omega), hu']
      obtain ⟨K, hK⟩ : ∃ K, K = kF (partF ps) k0 (q * 2) := ⟨_, rfl⟩
      have HK := Lib.hid hK
      have EK2 := Lib.hid ek2
      rw [← hK] at kb1 kb2 c1' hri ⊢
      clear f0 f1 hf kb hK hu hu' ek ek2 hl1 hf' hf2
      go_wp2_with (go_at_call 68; refine (heldI_any _ K (hri.drewN _) (by omega) (by omega) (by omega)).mono ?_; rintro e w' ⟨rfl, q0, rfl⟩)
      go_roundw
      case rel => exact ⟨q + 1, by omega, by rw [EK2.out, ← HK.out], by go_num, (by first | exact ⟨_, rfl⟩ | exact ⟨_, (World.drewN_drewN _ _ _).symm⟩ | exact Quiet.refl _ | (simp only [World.drewN_drewN]; exact ⟨_, rfl⟩))⟩
      case measure => simp [intOf]; omega
    · obtain rfl : q = n := by omega
      go_wp2
      go_ret
      exact ⟨rfl, (by first | exact ⟨_, rfl⟩ | exact ⟨_, (World.drewN_drewN _ _ _).symm⟩ | exact Quiet.refl _ | (simp only [World.drewN_drewN]; exact ⟨_, rfl⟩))⟩

end Go.Proofs.Ytgbojgmmingfdaa

/- laws.terms at the same terms; spec.DrawShapeProduct. -/
namespace Go.Proofs.Ytgbojgmmingfdaa
open Go.RowKit

set_option maxHeartbeats 1000000 in
theorem terms_any {v v' : Value} {base b base' b' : Nat} {ps : List (List Int × Int)} {cells cells' : List Value} {w : World} (h1 : OTp w base b v ps cells) (h2 : OTp w base' b' v' ps cells') (hn : ps.length ≤ 1000000000) :
    Calls Try.prog 36 #[v, v'] w (GivesB w (.bool true)) := by
  obtain ⟨A, c, rfl, hc, _⟩ := OF.form h1
  obtain ⟨A', c', rfl, hc', _⟩ := OF.form h2
  obtain ⟨n, hn'⟩ : ∃ n, n = ps.length := ⟨_, rfl⟩
  rw [← hn'] at hn hc hc' ⊢
  have HN := Lib.hid hn'
  rw [← hn'] at h1 h2
  clear hn'
  go_enter Try.func36, Try.ntmps36
  go_wp2
  go_loopw [5] (fun i wr => ∃ k : Nat, k ≤ n ∧ i = .int .i64 k ∧ Below w.heap.size w wr) (fun i _ => n - (intOf i).toNat)
  case atStart => exact ⟨0, Nat.zero_le _, rfl, Below.refl _ _⟩
  case round =>
    obtain ⟨k, hk, rfl, hbl⟩ := hrel
    by_cases hlt : k < n
    · have g1 := OF.below h1 hbl
      have g2 := OF.below h2 hbl
      obtain ⟨G, cc, hG, _⟩ := OF.shape g1 (by rw [← HN.out]; omega)
      obtain ⟨G', cc', hG', _⟩ := OF.shape g2 (by rw [← HN.out]; omega)
      obtain ⟨rfl, e2, e3⟩ := slice_inj hG
      obtain ⟨rfl, e2', e3'⟩ := slice_inj hG'
      clear hG hG' e2 e3 e2' e3'
      obtain ⟨A1, n1, c1, x1, _, x2, _, x3⟩ := OTp.cell g1 (k := k) (by rw [← HN.out]; exact hlt)
      obtain ⟨A2, n2, c2, y1, _, y2, _, y3⟩ := OTp.cell g2 (k := k) (by rw [← HN.out]; exact hlt)
      obtain ⟨y, hy⟩ : ∃ y, y = (nthP ps k).2 := ⟨_, rfl⟩
      rw [← hy] at x3 y3
      have hyy : (y != y) = false := by simp
      have HB := Lib.hid hbl
      have HE : Hid (∀ W, Below wr.heap.size wr W → Calls Try.prog 30 #[.slice A1 n1 c1, .slice A2 n2 c2] W (Gives W (.bool true))) := fun W b => ints_any true _ _ (x2.ri.below b) (y2.ri.below b) (by simp) (by have := x2.le; omega) (by have := y2.le; omega)
      have X := Lib.hid x1
      have X3 := Lib.hid x3
      have Y := Lib.hid y1
      have Y3 := Lib.hid y3
      clear g1 g2 hy x2 y2 x1 x3 y1 y3 hbl
      go_wp2_with fail
      go_region_held3 (fun w' => w'.cell? ⟨G, k * 2, none⟩ = some (.slice A1 n1 c1) ∧ w'.cell? ⟨G, k * 2 + 1, none⟩ = some (.int .i64 y) ∧ w'.cell? ⟨G', k * 2, none⟩ = some (.slice A2 n2 c2) ∧ w'.cell? ⟨G', k * 2 + 1, none⟩ = some (.int .i64 y)) (first | exact ⟨X.out, X3.out, Y.out, Y3.out⟩ | exact ⟨one_cell b2 X.out, one_cell b2 X3.out, one_cell b2 Y.out, one_cell b2 Y3.out⟩) (first
        | (go_at_call 30; (with_reducible refine (HE.out _ ?_).mono ?_); (exact ⟨rfl, rfl, rfl, Nat.le_refl _, fun _ _ => rfl⟩); rintro e w2 ⟨rfl, q2⟩; have b2 : Below wr.heap.size wr w2 := (by have b3 := q2.below (B := wr.heap.size); exact ⟨b3.os, b3.tape, b3.output, b3.size, b3.block⟩)))
      go_wp2
      go_roundw
      case rel => exact ⟨k + 1, by omega, by go_num, bnext HB.out b2 HB.out.size⟩
      case measure => simp [intOf]; omega
    · go_wp2
      go_ret
      exact ⟨rfl, hbl⟩


def DrawsS (w : World) : Ending → World → Prop := fun e w' =>
  ∃ A1 n1 c1 A2 n2 c2 a b B1 B2, e = .returned (.tuple #[.slice A1 n1 c1, .slice A2 n2 c2]) ∧ OI w' B1 (.slice A1 n1 c1) a ∧ OI w' B2 (.slice A2 n2 c2) b ∧ a.length ≤ 4 ∧ ShIn b 3 2 ∧ Below w.heap.size w w'
set_option maxHeartbeats 1000000 in
theorem drawS_any {w : World} {A : Option Addr} {n : Nat} (c : Nat) (hb : RB w A n) :
    Calls Try.prog 48 #[.slice A n c] w (DrawsS w) := by
  go_enter Try.func48, Try.ntmps48
  go_wp2_with fail
  refine (l1New_any hb).mono ?_
  rintro e w1 ⟨g, rfl, hg, d1, b1⟩
  have HB1 := Lib.hid b1
  have hs1 := b1.size
  have hlt1 := d1.cur.lt
  clear b1
  go_wp2_with fail
  refine (dShape_any 3 3 _ _ d1 (by first | rfl | omega) (by first | rfl | omega) (by omega) (by omega)).mono ?_
  rintro e w2 ⟨A2, n2, c2, l2, rfl, o2, sh2, hc2, hg2⟩
  have d2 := d1.next hc2 hg2
  have HG2 := Lib.hid hg2
  have hs2 := hg2.size
  have hn2 : n2 ≤ 3 := by rw [← o2.ri.1]; exact sh2.len
  clear hg2 hc2
  go_wp2_with fail
  refine (dBent_any d2 o2 (by omega) hs2 (by omega)).mono ?_
  rintro e w3 ⟨A3, n3, c3, l3, rfl, o3, le3, hc3, hg3⟩
  have d3 := d2.next hc3 hg3
  have HG3 := Lib.hid hg3
  have hs3 := hg3.size
  clear hg3 hc3
  go_wp2_with fail
  refine (dShape_any 3 2 _ _ d3 (by first | rfl | omega) (by first | rfl | omega) (by omega) (by omega)).mono ?_
  rintro e w4 ⟨A4, n4, c4, l4, rfl, o4, sh4, hc4, hg4⟩
  have o3' := o3.kept_low hg4 (fun b e => by injection e with e; omega)
  have hg := (HG2.out.trans HG3.out).trans hg4
  have hbl : Below w.heap.size w w4 := HB1.out.grown hg HB1.out.size (fun b e => by injection e with e; omega)
  go_wp2
  refine bodyPost_ret (v := .tuple #[.slice A3 n3 c3, .slice A4 n4 c4]) (by simp [results, Try.results48, go_sem]; try rfl) rfl ?_
  exact ⟨_, _, _, _, _, _, _, _, _, _, rfl, o3', o4, by omega, sh4, hbl⟩
end Go.Proofs.Ytgbojgmmingfdaa

/- SchurPoly of the reference and of the program, as the statement asks for them. -/
namespace Go.Proofs.Ytgbojgmmingfdaa
open Go.RowKit

def MakesTp (w : World) (ps : List (List Int × Int)) (ok : Bool) : Ending → World → Prop := fun e w' =>
  ∃ A n c cells, e = .returned (.tuple #[.slice A n c, .bool ok]) ∧ OTp w' w.heap.size w.heap.size (.slice A n c) ps cells ∧ ps.length = n ∧ (n ≤ c ∧ c ≤ 9223372036854775807) ∧ Below w.heap.size w w'
theorem MakesTm.tp {w w' : World} {ps : List (List Int × Int)} {ok : Bool} {e : Ending} (h : MakesTm w ps ok e w') : MakesTp w ps ok e w' := by
  obtain ⟨v, cells, h1, h2, h3⟩ := h
  have h4 := h2.tp
  obtain ⟨A, c, rfl, hc, hm, -⟩ := OF.form h4
  exact ⟨A, _, c, cells, h1, h4, rfl, ⟨hc, hm⟩, h3⟩
theorem poly_len {ps : List (List Int × Int)} (h : polyB ps = true) : ps.length ≤ 600 ∧ ∀ k, k < ps.length → (nthP ps k).1.length ≤ 100000 := by
  rw [polyB, Bool.and_eq_true, decide_eq_true_eq] at h
  refine ⟨h.1, fun k hk => ?_⟩
  have h2 := h.2
  rw [List.all_eq_true] at h2
  have h3 := h2 k (List.mem_range.2 hk)
  rw [Bool.and_eq_true] at h3
  have h4 := h3.1
  simp only [termB, Bool.and_eq_true, decide_eq_true_eq] at h4
  omega
theorem schurR_small {ms : List Int} {n : Int} : (schurR ms n).length ≤ 10000 ∧ ∀ k, k < (schurR ms n).length → (nthP (schurR ms n) k).1.length ≤ 100000 := by
  unfold schurR
  by_cases h : schurB ms n = true
  · rw [if_pos h]
    have h2 : polyB (schurT ms n) = true := by
      unfold schurB shutB at h
      simp only [Bool.and_eq_true] at h
      exact h.2.2
    have := poly_len h2
    exact ⟨by omega, this.2⟩
  · rw [if_neg h]
    exact ⟨by simp, fun k hk => by simp at hk⟩
theorem iSchurP_any {w : World} {A : Option Addr} {m b0 : Nat} {ms : List Int} (c : Nat) (n : Int) (hx : OI w b0 (.slice A m c) ms) (hm : m ≤ 1000000000) (hn : -9223372036854775808 ≤ n ∧ n ≤ 9223372036854775807) :
    Calls Try.prog 11 #[.slice A m c, .int .i64 n] w (MakesTp w (schurR ms n) (schurB ms n)) := (iSchur_any c n hx.ri hm hn).mono fun _ _ h => h.tp
set_option maxRecDepth 100000 in
set_option maxHeartbeats 1000000 in
theorem sSchurM_any {w : World} {A : Option Addr} {m b0 : Nat} {ms : List Int} (c : Nat) (n : Int) (hx : OI w b0 (.slice A m c) ms) (hm : m ≤ 1000000000) (hn : -9223372036854775808 ≤ n ∧ n ≤ 9223372036854775807) :
    Calls Try.prog 9 #[.slice A m c, .int .i64 n] w (MakesTm w (schurR ms n) (schurB ms n)) := by
  have hr := hx.ri
  have HIS : Hid (∀ W, RI W A m ms → Calls Try.prog 57 #[.slice A m c] W (Gives W (.bool (isShapeB ms)))) := fun W h => sIsShape_any _ h hm
  rcases h0 : isShapeB ms with _ | _
  · have HE := Lib.hid (schurB_no (n := n) (by simp [schurOk, smallB, h0] : schurOk ms n = false))
    rw [h0] at HIS
    clear h0
    go_enter Try.func9, Try.ntmps9
    go_wp2_with (go_at_call 57; (with_reducible refine (HIS.out _ ?_).mono ?_); (first | exact hr | exact hr.drewN _); rintro e w' ⟨rfl, q0, rfl⟩)
    go_ret2
    rw [HE.out.1, HE.out.2]
    exact ⟨_, _, rfl, OF.nil_ _ _ _ _ _, Quiet.below ⟨_, rfl⟩⟩
  have hlen : m ≤ 16 := by have h2 := h0; simp only [isShapeB, Bool.and_eq_true, decide_eq_true_eq] at h2; rw [← hr.1]; exact h2.1
  have HSS : Hid (∀ W, RI W A m ms → Calls Try.prog 58 #[.slice A m c] W (Gives W (.int .i64 (sumL ms)))) := fun W h => sSum_any _ h (small_shape h0) (by omega)
  obtain ⟨S, hS⟩ : ∃ S, S = sumL ms := ⟨_, rfl⟩
  have HSE := Lib.hid hS
  rw [← hS] at HSS
  clear hS
  rw [h0] at HIS
  by_cases h8 : 8 < S
  · have HE := Lib.hid (schurB_no (n := n) (by have := HSE.out; simp [schurOk, smallB]; intro _ h; omega : schurOk ms n = false))
    go_enter Try.func9, Try.ntmps9
    go_wp2_with (first | (go_at_call 57; (with_reducible refine (HIS.out _ ?_).mono ?_); (first | exact hr | exact hr.drewN _); rintro e w' ⟨rfl, q0, rfl⟩) | (go_at_call 58; (with_reducible refine (HSS.out _ ?_).mono ?_); (first | exact hr | exact hr.drewN _); rintro e w' ⟨rfl, q1, rfl⟩))
    go_ret2
    rw [HE.out.1, HE.out.2]
    exact ⟨_, _, rfl, OF.nil_ _ _ _ _ _, Quiet.below (by first | exact ⟨_, rfl⟩ | exact ⟨_, (World.drewN_drewN _ _ _).symm⟩ | exact Quiet.refl _ | (simp only [World.drewN_drewN]; exact ⟨_, rfl⟩))⟩
  have HIN : Hid (∀ W, Calls Try.prog 59 #[.int .i64 n, .int .i64 0, .int .i64 7] W (Gives W (.bool (inB n 0 7)))) := fun W => l1In_any _ _ _
  rcases h7 : inB n 0 7 with _ | _
  · have HE := Lib.hid (schurB_no (n := n) (by simp [schurOk, h7] : schurOk ms n = false))
    rw [h7] at HIN
    clear h7
    go_enter Try.func9, Try.ntmps9
    go_wp2_with (first | (go_at_call 57; (with_reducible refine (HIS.out _ ?_).mono ?_); (first | exact hr | exact hr.drewN _); rintro e w' ⟨rfl, q0, rfl⟩) | (go_at_call 58; (with_reducible refine (HSS.out _ ?_).mono ?_); (first | exact hr | exact hr.drewN _); rintro e w' ⟨rfl, q1, rfl⟩) | (go_at_call 59; (with_reducible refine (HIN.out _).mono ?_); rintro e w' ⟨rfl, q2, rfl⟩))
    go_ret2
    rw [HE.out.1, HE.out.2]
    exact ⟨_, _, rfl, OF.nil_ _ _ _ _ _, Quiet.below (by first | exact ⟨_, rfl⟩ | exact ⟨_, (World.drewN_drewN _ _ _).symm⟩ | exact Quiet.refl _ | (simp only [World.drewN_drewN]; exact ⟨_, rfl⟩))⟩
  have hsm : smallB ms = true := by rw [smallB, h0]; simp; have := HSE.out; omega
  obtain ⟨hd, hp, hs8, hl16, h1000⟩ := small_facts hsm
  have h3 := inB_iff.1 h7
  have HOK : Hid (schurB ms n = shutB (schurK n.toNat ms) ∧ schurR ms n = shutT (schurK n.toNat ms)) := by
    have e : schurOk ms n = true := by simp [schurOk, hsm, h7]
    have e2 : schurB ms n = shutB (schurK n.toNat ms) := by rw [schurB, e]; rfl
    refine ⟨e2, ?_⟩
    rw [schurR, shutT, e2]; rfl
  obtain ⟨N, rfl⟩ : ∃ N : Nat, n = (N : Int) := ⟨n.toNat, by omega⟩
  have HCS : Hid (∀ W, Below w.heap.size w W → Calls Try.prog 61 #[.slice A m c, .int .i64 (N : Int)] W (MakesM W (schurK N ms))) := fun W bW => l4Schur_any N W b0 m c A ms (hx.below bW) hd hp hs8 (by omega) h1000 (by omega)
  have HKR : Hid (∀ x ∈ schurK N ms, 0 ≤ x.1 ∧ x.1 ≤ 9223372036854775807) := fun x hx => by have := schurK_range hd hp hs8 (show N ≤ 7 by omega) hx; omega
  have HKL : Hid ((schurK N ms).length ≤ 1000000000) := by
    have h1 := absK_len (l := schurK N ms) (schurK_srt N ms).2
    have h2 := schurK_abs N ms hd hp
    have h4 := tabs_len (n := N) hd hs8 (by omega)
    unfold keysS at h2
    rw [List.length_map] at h2
    show _ ≤ _
    omega
  rw [h7] at HIN
  clear h7 hsm hd hp hs8 hl16 h1000
  have hbq : ∀ q, Below w.heap.size w (w.drewN q) := fun q => below_drewN (Below.refl _ _) q
  have HBQ := Lib.hid hbq
  clear hbq
  go_enter Try.func9, Try.ntmps9
  go_wp2_with (first
    | (go_at_call 57; (with_reducible refine (HIS.out _ ?_).mono ?_); (first | exact hr | exact hr.drewN _); rintro e w' ⟨rfl, q0, rfl⟩)
    | (go_at_call 58; (with_reducible refine (HSS.out _ ?_).mono ?_); (first | exact hr | exact hr.drewN _); rintro e w' ⟨rfl, q1, rfl⟩)
    | (go_at_call 59; (with_reducible refine (HIN.out _).mono ?_); rintro e w' ⟨rfl, q2, rfl⟩)
    | (go_at_call 61; (with_reducible refine (HCS.out _ ?_).mono ?_); (exact HBQ.out _); rintro e w5 ⟨g5, n5, c5, rfl, o5, b5⟩; have O5 := Lib.hid o5; have B5 := Lib.hid b5; clear o5 b5)
    | (go_at_call 60; refine (l2Shut_any O5.out (by have := O5.out.len; have := HKL.out; omega) HKR.out).mono ?_; rintro e w6 ⟨v6, cs6, rfl, o6, b6⟩)
    | fail)
  go_ret2
  have hb := (HBQ.out _).trans (B5.out.mono (Nat.le_refl _))
  rw [HOK.out.1, HOK.out.2]
  exact ⟨v6, cs6, rfl, OF.mono o6 hb.size hb.size, hb.trans (b6.mono hb.size)⟩
theorem sSchur_any {w : World} {A : Option Addr} {m b0 : Nat} {ms : List Int} (c : Nat) (n : Int) (hx : OI w b0 (.slice A m c) ms) (hm : m ≤ 1000000000) (hn : -9223372036854775808 ≤ n ∧ n ≤ 9223372036854775807) :
    Calls Try.prog 9 #[.slice A m c, .int .i64 n] w (MakesTp w (schurR ms n) (schurB ms n)) := (sSchurM_any c n hx hm hn).mono fun _ _ h => h.tp
end Go.Proofs.Ytgbojgmmingfdaa
