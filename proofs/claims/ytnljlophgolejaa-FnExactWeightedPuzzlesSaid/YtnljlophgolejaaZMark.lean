/- Slices of puzzles: comparison and marks. -/
import Derived.Test.YtnljlophgolejaaZParts
import Derived.Test.YtnljlophgolejaaWords
namespace Go.Proofs.Ytnljlophgolejaa
open Go.RowKit

theorem smallZ_of {n : Int} {ps : List PZ} (h : ∀ p ∈ ps, p.1.length ≤ 100000 ∧ p.2.1.length ≤ 100000 ∧ p.2.2.length ≤ 100000) : ∀ x ∈ zF n ps, wF x ≤ 100000 := by
  intro x hx
  simp only [zF, List.mem_flatMap] at hx
  obtain ⟨p, hp, hx⟩ := hx
  obtain ⟨h1, h2, h3⟩ := h p hp
  simp at hx
  rcases hx with rfl | rfl | rfl | rfl
  · simp [wF]
  · exact h1
  · exact h2
  · exact h3

set_option maxRecDepth 100000 in
theorem eqPuzzleS_any {v v' : Value} {base b base' b' : Nat} {m : Int} {ps : List PZ} {cells cells' : List Value} {w : World} (h1 : OZ w base b v m ps cells) (h2 : OZ w base' b' v' m ps cells') (hn : ps.length ≤ 1000000000) :
    Calls Try.prog 18 #[v, v'] w (GivesB w (.bool true)) := by
  obtain ⟨A, c, rfl, hc, _⟩ := OF.form h1
  obtain ⟨A', c', rfl, hc', _⟩ := OF.form h2
  obtain ⟨n, hn'⟩ : ∃ n, n = ps.length := ⟨_, rfl⟩
  rw [← hn'] at hn hc hc' ⊢
  have HN := Lib.hid hn'
  rw [← hn'] at h1 h2
  clear hn'
  go_enter Try.func18, Try.ntmps18
  go_wp2
  go_loopw [5] (fun i wr => ∃ k : Nat, k ≤ n ∧ i = .int .i64 k ∧ Below w.heap.size w wr) (fun i _ => n - (intOf i).toNat)
  case atStart => exact ⟨0, Nat.zero_le _, rfl, Below.refl _ _⟩
  case round =>
    obtain ⟨k, hk, rfl, hbl⟩ := hrel
    by_cases hlt : k < n
    · have g1 := OF.below h1 hbl
      have g2 := OF.below h2 hbl
      obtain ⟨G, cc, hG, _⟩ := OF.shape g1 (by rw [← HN.out]; omega)
      obtain ⟨G', cc', hG', _⟩ := OF.shape g2 (by rw [← HN.out]; omega)
      obtain ⟨rfl, e2, e3⟩ := slice_inj hG
      obtain ⟨rfl, e2', e3'⟩ := slice_inj hG'
      clear hG hG' e2 e3 e2' e3'
      obtain ⟨u1, u2, u3, x0, x1, x2, x3, o1, o2, o3⟩ := OZ.cell g1 (k := k) (by rw [← HN.out]; exact hlt)
      obtain ⟨v1, v2, v3, y0, y1, y2, y3, r1, r2, r3⟩ := OZ.cell g2 (k := k) (by rw [← HN.out]; exact hlt)
      obtain ⟨A1, n1, c1, rfl, a1, l1, -⟩ := o1.form
      obtain ⟨A2, n2, c2, rfl, a2, l2, -⟩ := o2.form
      obtain ⟨A3, n3, c3, rfl, a3, l3, -⟩ := o3.form
      obtain ⟨C1, m1, d1, rfl, b1, q1, -⟩ := r1.form
      obtain ⟨C2, m2, d2, rfl, b2, q2, -⟩ := r2.form
      obtain ⟨C3, m3, d3, rfl, b3, q3, -⟩ := r3.form
      obtain rfl : m1 = n1 := by rw [← b1.1, ← a1.1]
      obtain rfl : m2 = n2 := by rw [← b2.1, ← a2.1]
      obtain rfl : m3 = n3 := by rw [← b3.1, ← a3.1]
      have t1 := o1.le
      have t2 := o2.le
      have t3 := o3.le
      have HE : Hid (∀ W, Below wr.heap.size wr W → Calls Try.prog 61 #[.agg #[.int .i64 m, .slice A1 m1 c1, .slice A2 m2 c2, .slice A3 m3 c3], .agg #[.int .i64 m, .slice C1 m1 d1, .slice C2 m2 d2, .slice C3 m3 d3]] W (GivesB W (.bool true))) := fun W b =>
        eqPz_any _ _ _ _ _ _ m (a1.below b) (a2.below b) (a3.below b) (b1.below b) (b2.below b) (b3.below b) (by omega) (by omega) (by omega)
      have X := Lib.hid (⟨x0, x1, x2, x3, y0, y1, y2, y3⟩ : _ ∧ _ ∧ _ ∧ _ ∧ _ ∧ _ ∧ _ ∧ _)
      have HB := Lib.hid hbl
      clear g1 g2 x0 x1 x2 x3 y0 y1 y2 y3 o1 o2 o3 r1 r2 r3 a1 a2 a3 b1 b2 b3 hbl t1 t2 t3 l1 l2 l3 q1 q2 q3
      go_wp2_with fail
      go_region_held3 (fun w' => w'.cell? ⟨G, k * 4, none⟩ = some (.int .i64 m) ∧ w'.cell? ⟨G, k * 4 + 1, none⟩ = some (.slice A1 m1 c1) ∧ w'.cell? ⟨G, k * 4 + 2, none⟩ = some (.slice A2 m2 c2) ∧ w'.cell? ⟨G, k * 4 + 3, none⟩ = some (.slice A3 m3 c3) ∧ w'.cell? ⟨G', k * 4, none⟩ = some (.int .i64 m) ∧ w'.cell? ⟨G', k * 4 + 1, none⟩ = some (.slice C1 m1 d1) ∧ w'.cell? ⟨G', k * 4 + 2, none⟩ = some (.slice C2 m2 d2) ∧ w'.cell? ⟨G', k * 4 + 3, none⟩ = some (.slice C3 m3 d3)) (first | exact X.out | exact ⟨one_cell b2 X.out.1, one_cell b2 X.out.2.1, one_cell b2 X.out.2.2.1, one_cell b2 X.out.2.2.2.1, one_cell b2 X.out.2.2.2.2.1, one_cell b2 X.out.2.2.2.2.2.1, one_cell b2 X.out.2.2.2.2.2.2.1, one_cell b2 X.out.2.2.2.2.2.2.2⟩) (first
        | (go_at_call 61; (with_reducible refine (HE.out _ ?_).mono ?_); (exact ⟨rfl, rfl, rfl, Nat.le_refl _, fun _ _ => rfl⟩); rintro e w2 ⟨rfl, b2'⟩; have b2 : Below wr.heap.size wr w2 := ⟨b2'.os, b2'.tape, b2'.output, b2'.size, b2'.block⟩))
      go_wp2
      go_roundw
      case rel => exact ⟨k + 1, by omega, by go_num, bnext HB.out b2 HB.out.size⟩
      case measure => simp [intOf]; omega
    · go_wp2
      go_ret
      exact ⟨rfl, hbl⟩

set_option maxRecDepth 100000 in
set_option maxHeartbeats 2000000 in
theorem markPuzzleS_any {v : Value} {base b hi : Nat} {m : Int} {ps : List PZ} {cells : List Value} {w : World} (k0 : Int) (h : OZ w base b v m ps cells) (hin : In base hi v cells) (h0 : 0 ≤ k0) (h1 : k0 ≤ 100000000000)
    (hn : ps.length ≤ 1000000) (hw : ∀ x ∈ zF m ps, wF x ≤ 100000) :
    Calls Try.prog 20 #[v, .int .i64 k0] w (fun e w' => ∃ cells', e = .returned (.int .i64 (kF (zF m ps) k0 (ps.length * 4))) ∧ OF w' base b 53 4 v ps.length (markedF (zF m ps) k0 (ps.length * 4)) cells' ∧ Within base hi w w') := by
  obtain ⟨A, c, rfl, hc, _⟩ := OF.form h
  obtain ⟨n, hn'⟩ : ∃ n, n = ps.length := ⟨_, rfl⟩
  have h' : OF w base b 53 4 (.slice A n c) n (zF m ps) cells := by rw [hn']; exact h
  rw [← hn'] at hn hc hin ⊢
  have HN := Lib.hid hn'
  have HW := Lib.hid hw
  clear hn' hw h
  go_enter Try.func20, Try.ntmps20
  go_wp2
  go_loopw [1, 5] (fun k i wr => ∃ (q : Nat) (cs : List Value), q ≤ n ∧ k = .int .i64 (kF (zF m ps) k0 (q * 4)) ∧ i = .int .i64 q ∧ OF wr base b 53 4 (.slice A n c) n (markedF (zF m ps) k0 (q * 4)) cs ∧ In base hi (.slice A n c) cs ∧ Within base hi w wr) (fun _ i _ => n - (intOf i).toNat)
  case atStart => exact ⟨0, cells, Nat.zero_le _, rfl, rfl, by rw [Nat.zero_mul, markedF_zero]; exact h', hin, Within.refl _ _ _⟩
  case round =>
    clear h' hin
    obtain ⟨q, cs, hq, rfl, rfl, ho, hin, hwi⟩ := hrel
    by_cases hlt : q < n
    · obtain ⟨G, cc, hG, _⟩ := OF.shape ho (by omega)
      obtain ⟨rfl, e2, e3⟩ := slice_inj hG
      clear e2 e3
      obtain ⟨f0, f1, f2, f3⟩ := zF_at (n := m) (ps := ps) (k := q) (by rw [← HN.out]; exact hlt)
      have F0 := Lib.hid f0
      have F1 := Lib.hid f1
      have F2 := Lib.hid f2
      have F3 := Lib.hid f3
      obtain ⟨up, hup, hfp⟩ := ho.2.1.at_ (markedF_new f0)
      have hfp' : up = .int .i64 m := hfp
      subst hfp'
      have c0 : wr.cell? ⟨G, q * 4, none⟩ = some (.int .i64 m) := by rw [OF.cellF ho (by omega), hup]
      have z0 := OF.frozenF ho (q * 4)
      have hm1w := (markedF_at (k0 := k0) (m := q * 4) (List.getElem?_eq_some_iff.1 f1).1).trans (by rw [if_neg (by omega), getF_at f1])
      obtain ⟨uw, huw, hfw⟩ := ho.2.1.at_ hm1w
      have cw1 : wr.cell? ⟨G, q * 4 + 1, none⟩ = some uw := by rw [OF.cellF ho (by omega), huw]
      have kb := kF_bound (k0 := k0) HW.out (by omega) (q * 4)
      have kb2 : kF (zF m ps) k0 (q * 4) ≤ 600000000000 := by
        have : q * 4 * 100000 ≤ 1000000 * 4 * 100000 := by omega
        omega
      have kb1 := kb.1
      obtain ⟨K, hK⟩ : ∃ K, K = kF (zF m ps) k0 (q * 4) := ⟨_, rfl⟩
      have HK := Lib.hid hK
      rw [← hK] at kb1 kb2 ⊢
      have S0 := OF.setInt ho (by decide) (markedF_new f0) K
      have e0 : (markedF (zF m ps) k0 (q * 4)).set (q * 4) (.inl K) = markedF (zF m ps) k0 (q * 4 + 1) := by
        rw [← markedF_step F0.out, ← HK.out]; rfl
      rw [e0] at S0
      obtain ⟨s0, g0⟩ := S0
      obtain ⟨wa, hwa⟩ : ∃ wa, wa = wr.setCell ⟨G, q * 4, none⟩ (.int .i64 K) := ⟨_, rfl⟩
      rw [← hwa] at s0 g0
      obtain ⟨csa, hcsa⟩ : ∃ csa, csa = cs.set (q * 4) (.int .i64 K) := ⟨_, rfl⟩
      rw [← hcsa] at s0
      obtain ⟨u, hu, hf⟩ := s0.2.1.at_ (markedF_new f1)
      have hf' : OI wa b u (nthZ ps q).1 := hf
      obtain rfl : uw = u := by
        rw [hcsa, List.getElem?_set_ne (by omega), huw] at hu
        exact Option.some.inj hu
      obtain ⟨A1, n1, c1, rfl, hri, hcc, hnn, _⟩ := hf'.form
      have hl : n1 ≤ 100000 := by
        have := HW.out _ (List.mem_of_getElem? f1)
        rw [← hri.1]; exact this
      have HU := Lib.hid hu
      have HI := Lib.hid hri.1
      have HS0 := Lib.hid s0
      have HG0 := Lib.hid g0
      have HIN := Lib.hid hin
      have HWI := Lib.hid hwi
      have hG2 := hin.1 G rfl
      have EK1 : Hid (kF (zF m ps) k0 (q * 4 + 1) = K + 1) := by show _ = _; rw [kF_step F0.out, ← HK.out]; rfl
      have HINa : Hid (In base hi (.slice (some ⟨G, 0, none⟩) n c) csa) := ⟨hin.1, fun u hu k hk => by
        rw [hcsa] at hu
        rcases List.mem_or_eq_of_mem_set hu with h | rfl
        · exact hin.2 u h k hk
        · simp [Value.ownBlock] at hk⟩
      have HWA := Lib.hid hwa
      have HOF := Lib.hid hf'
      clear f0 f1 f2 f3 hfp kb hG hK hri hu hup ho hin hwi e0 s0 g0 hf hf' hwa huw hfw hm1w
      go_wp2_with fail
      rw [← HWA.out]
      refine (markI_any (K + 1) HOF.out (by omega) (by omega) (by omega)).mono ?_
      rintro e w1 ⟨rfl, o1, g1⟩
      have s1 := OF.setInner HS0.out (by decide) (markedF_new F1.out) HU.out g1 o1
      have e1 : (markedF (zF m ps) k0 (q * 4 + 1)).set (q * 4 + 1) (.inr (upFrom (K + 1) n1)) = markedF (zF m ps) k0 (q * 4 + 2) := by
        rw [show q * 4 + 2 = q * 4 + 1 + 1 from rfl, ← markedF_step F1.out, EK1.out, ← HI.out]; rfl
      rw [e1] at s1
      have EK2 : Hid (kF (zF m ps) k0 (q * 4 + 2) = K + 1 + n1) := by show _ = _; rw [show q * 4 + 2 = q * 4 + 1 + 1 from rfl, kF_step F1.out, EK1.out, ← HI.out]; rfl
      obtain ⟨u2, hu2, hf2⟩ := s1.2.1.at_ (markedF_new (k0 := k0) F2.out)
      have hf2' : OI w1 b u2 (nthZ ps q).2.1 := hf2
      obtain ⟨A2, n2, c2, rfl, hri2, hcc2, hnn2, _⟩ := hf2'.form
      have hl2 : n2 ≤ 100000 := by
        have := HW.out _ (List.mem_of_getElem? F2.out)
        rw [← hri2.1]; exact this
      have x2 : w1.cell? ⟨G, q * 4 + 2, none⟩ = some (.slice A2 n2 c2) := by rw [OF.cellF s1 (by omega), hu2]
      have HU2 := Lib.hid hu2
      have HI2 := Lib.hid hri2.1
      have HS1 := Lib.hid s1
      have HG1 := Lib.hid g1
      have HOF2 := Lib.hid hf2'
      clear s1 e1 hu2 hf2 hf2' hri2 g1 o1 c0 z0 cw1
      go_wp2_with fail
      refine (markI_any (K + 1 + n1) HOF2.out (by omega) (by omega) (by omega)).mono ?_
      rintro e w2 ⟨rfl, o2, g2⟩
      have s2 := OF.setInner HS1.out (by decide) (markedF_new F2.out) HU2.out g2 o2
      have e2 : (markedF (zF m ps) k0 (q * 4 + 2)).set (q * 4 + 2) (.inr (upFrom (K + 1 + n1) n2)) = markedF (zF m ps) k0 (q * 4 + 3) := by
        rw [show q * 4 + 3 = q * 4 + 2 + 1 from rfl, ← markedF_step F2.out, EK2.out, ← HI2.out]; rfl
      rw [e2] at s2
      have EK3 : Hid (kF (zF m ps) k0 (q * 4 + 3) = K + 1 + n1 + n2) := by show _ = _; rw [show q * 4 + 3 = q * 4 + 2 + 1 from rfl, kF_step F2.out, EK2.out, ← HI2.out]; rfl
      obtain ⟨u3, hu3, hf3⟩ := s2.2.1.at_ (markedF_new (k0 := k0) F3.out)
      have hf3' : OI w2 b u3 (nthZ ps q).2.2 := hf3
      obtain ⟨A3, n3, c3, rfl, hri3, hcc3, hnn3, _⟩ := hf3'.form
      have hl3 : n3 ≤ 100000 := by
        have := HW.out _ (List.mem_of_getElem? F3.out)
        rw [← hri3.1]; exact this
      have x3 : w2.cell? ⟨G, q * 4 + 3, none⟩ = some (.slice A3 n3 c3) := by rw [OF.cellF s2 (by omega), hu3]
      have HU3 := Lib.hid hu3
      have HI3 := Lib.hid hri3.1
      have HS2 := Lib.hid s2
      have HG2 := Lib.hid g2
      have HOF3 := Lib.hid hf3'
      clear s2 e2 hu3 hf3 hf3' hri3 g2 o2 x2
      go_wp2_with fail
      refine (markI_any (K + 1 + n1 + n2) HOF3.out (by omega) (by omega) (by omega)).mono ?_
      rintro e w3 ⟨rfl, o3, g3⟩
      have s3 := OF.setInner HS2.out (by decide) (markedF_new F3.out) HU3.out g3 o3
      have e3 : (markedF (zF m ps) k0 (q * 4 + 3)).set (q * 4 + 3) (.inr (upFrom (K + 1 + n1 + n2) n3)) = markedF (zF m ps) k0 ((q + 1) * 4) := by
        rw [show (q + 1) * 4 = q * 4 + 3 + 1 by omega, ← markedF_step F3.out, EK3.out, ← HI3.out]; rfl
      rw [e3] at s3
      have EK4 : Hid (kF (zF m ps) k0 ((q + 1) * 4) = K + 1 + n1 + n2 + n3) := by show _ = _; rw [show (q + 1) * 4 = q * 4 + 3 + 1 by omega, kF_step F3.out, EK3.out, ← HI3.out]; rfl
      have HS3 := Lib.hid s3
      have HG3 := Lib.hid g3
      clear s3 e3 g3 o3 x3
      go_wp2
      go_roundw
      case rel =>
        refine ⟨q + 1, csa, by omega, by rw [EK4.out], by go_num, HS3.out, HINa.out, ?_⟩
        exact (((HWI.out.grown HG0.out (fun g e => by injection e with e; subst e; exact hG2)).grown HG1.out (fun g e => HINa.out.2 _ (List.mem_of_getElem? HU.out) g e)).grown HG2.out (fun g e => HINa.out.2 _ (List.mem_of_getElem? HU2.out) g e)).grown HG3.out (fun g e => HINa.out.2 _ (List.mem_of_getElem? HU3.out) g e)
      case measure => simp [intOf]; omega
    · obtain rfl : q = n := by omega
      have HO := Lib.hid ho
      clear ho
      go_wp2
      go_ret
      exact ⟨cs, rfl, HO.out, hwi⟩

set_option maxRecDepth 100000 in
set_option maxHeartbeats 2000000 in
theorem heldPuzzleS_any {v : Value} {base b : Nat} {m : Int} {ps : List PZ} {cells : List Value} {w : World} (k0 : Int) (h : OF w base b 53 4 v ps.length (markedF (zF m ps) k0 (ps.length * 4)) cells) (h0 : 0 ≤ k0) (h1 : k0 ≤ 100000000000)
    (hn : ps.length ≤ 1000000) (hw : ∀ x ∈ zF m ps, wF x ≤ 100000) :
    Calls Try.prog 21 #[v, .int .i64 k0] w (Gives w (.int .i64 (kF (zF m ps) k0 (ps.length * 4)))) := by
  obtain ⟨A, c, rfl, hc, _⟩ := OF.form h
  obtain ⟨n, hn'⟩ : ∃ n, n = ps.length := ⟨_, rfl⟩
  rw [← hn'] at hn hc h ⊢
  have HN := Lib.hid hn'
  have HW := Lib.hid hw
  clear hn' hw
  go_enter Try.func21, Try.ntmps21
  go_wp2
  go_loopw [1, 5] (fun k i wr => ∃ (q : Nat), q ≤ n ∧ k = .int .i64 (kF (zF m ps) k0 (q * 4)) ∧ i = .int .i64 q ∧ Quiet w wr) (fun _ i _ => n - (intOf i).toNat)
  case atStart => exact ⟨0, Nat.zero_le _, rfl, rfl, (by first | exact ⟨_, rfl⟩ | exact ⟨_, (World.drewN_drewN _ _ _).symm⟩ | exact Quiet.refl _ | (simp only [World.drewN_drewN]; exact ⟨_, rfl⟩))⟩
  case round =>
    obtain ⟨q, hq, rfl, rfl, ⟨qq, rfl⟩⟩ := hrel
    by_cases hlt : q < n
    · obtain ⟨G, cc, hG, _⟩ := OF.shape h (by omega)
      obtain ⟨rfl, e2, e3⟩ := slice_inj hG
      clear e2 e3 hG
      obtain ⟨f0, f1, f2, f3⟩ := zF_at (n := m) (ps := ps) (k := q) (by rw [← HN.out]; exact hlt)
      have F0 := Lib.hid f0
      have F1 := Lib.hid f1
      have F2 := Lib.hid f2
      have F3 := Lib.hid f3
      obtain ⟨u0, hu0, hf0⟩ := h.2.1.at_ (markedF_old (k0 := k0) (m := n * 4) f0 (by omega))
      have hf0' : u0 = .int .i64 (kF (zF m ps) k0 (q * 4)) := hf0
      subst hf0'
      obtain ⟨u, hu, hf⟩ := h.2.1.at_ (markedF_old (k0 := k0) (m := n * 4) f1 (by omega))
      have hf' : OI w b u (upFrom (kF (zF m ps) k0 (q * 4 + 1)) (nthZ ps q).1.length) := hf
      obtain ⟨A1, n1, c1, rfl, hri, hcc, hnn, _⟩ := hf'.form
      obtain ⟨u2, hu2, hf2⟩ := h.2.1.at_ (markedF_old (k0 := k0) (m := n * 4) f2 (by omega))
      have hf2' : OI w b u2 (upFrom (kF (zF m ps) k0 (q * 4 + 2)) (nthZ ps q).2.1.length) := hf2
      obtain ⟨A2, n2, c2, rfl, hri2, hcc2, hnn2, _⟩ := hf2'.form
      obtain ⟨u3, hu3, hf3⟩ := h.2.1.at_ (markedF_old (k0 := k0) (m := n * 4) f3 (by omega))
      have hf3' : OI w b u3 (upFrom (kF (zF m ps) k0 (q * 4 + 3)) (nthZ ps q).2.2.length) := hf3
      obtain ⟨A3, n3, c3, rfl, hri3, hcc3, hnn3, _⟩ := hf3'.form
      have kb := kF_bound (k0 := k0) HW.out (by omega) (q * 4)
      have hl1 : (nthZ ps q).1.length = n1 := by have := hri.1; rwa [upFrom_len] at this
      have hl2 : (nthZ ps q).2.1.length = n2 := by have := hri2.1; rwa [upFrom_len] at this
      have hl3 : (nthZ ps q).2.2.length = n3 := by have := hri3.1; rwa [upFrom_len] at this
      rw [hl1] at hri
      rw [hl2] at hri2
      rw [hl3] at hri3
      have hb1 : n1 ≤ 100000 := by
        have := HW.out _ (List.mem_of_getElem? f1)
        rw [← hl1]; exact this
      have hb2 : n2 ≤ 100000 := by
        have := HW.out _ (List.mem_of_getElem? f2)
        rw [← hl2]; exact this
      have hb3 : n3 ≤ 100000 := by
        have := HW.out _ (List.mem_of_getElem? f3)
        rw [← hl3]; exact this
      have kb2 : kF (zF m ps) k0 (q * 4) ≤ 600000000000 := by
        have : q * 4 * 100000 ≤ 1000000 * 4 * 100000 := by omega
        omega
      have kb1 := kb.1
      have ek0 : kF (zF m ps) k0 (q * 4 + 1) = kF (zF m ps) k0 (q * 4) + 1 := by rw [kF_step F0.out]; rfl
      have ek1 : kF (zF m ps) k0 (q * 4 + 2) = kF (zF m ps) k0 (q * 4) + 1 + n1 := by rw [show q * 4 + 2 = q * 4 + 1 + 1 from rfl, kF_step F1.out, ek0, ← hl1]; rfl
      have ek2 : kF (zF m ps) k0 (q * 4 + 3) = kF (zF m ps) k0 (q * 4) + 1 + n1 + n2 := by rw [show q * 4 + 3 = q * 4 + 2 + 1 from rfl, kF_step F2.out, ek1, ← hl2]; rfl
      have ek3 : kF (zF m ps) k0 ((q + 1) * 4) = kF (zF m ps) k0 (q * 4) + 1 + n1 + n2 + n3 := by rw [show (q + 1) * 4 = q * 4 + 3 + 1 by omega, kF_step F3.out, ek2, ← hl3]; rfl
      rw [ek0] at hri
      rw [ek1] at hri2
      rw [ek2] at hri3
      have c0 : w.cell? ⟨G, q * 4, none⟩ = some (.int .i64 (kF (zF m ps) k0 (q * 4))) := by rw [OF.cellF h (by omega), hu0]
      have c1' : w.cell? ⟨G, q * 4 + 1, none⟩ = some (.slice A1 n1 c1) := by rw [OF.cellF h (by omega), hu]
      have c2' : w.cell? ⟨G, q * 4 + 2, none⟩ = some (.slice A2 n2 c2) := by rw [OF.cellF h (by omega), hu2]
      have c3' : w.cell? ⟨G, q * 4 + 3, none⟩ = some (.slice A3 n3 c3) := by rw [OF.cellF h (by omega), hu3]
      obtain ⟨K, hK⟩ : ∃ K, K = kF (zF m ps) k0 (q * 4) := ⟨_, rfl⟩
      have HK := Lib.hid hK
      have EK3 := Lib.hid ek3
      rw [← hK] at kb1 kb2 c0 hri hri2 hri3 ⊢
      have hkk : (K != K) = false := by simp
      have H1 : Hid (∀ W, Quiet w W → Calls Try.prog 62 #[.slice A1 n1 c1, .int .i64 (K + 1)] W (Gives W (.int .i64 (K + 1 + n1)))) := fun W q => heldI_any _ (K + 1) (hri.below (Quiet.below q)) (by omega) (by omega) (by omega)
      have H2 : Hid (∀ W, Quiet w W → Calls Try.prog 62 #[.slice A2 n2 c2, .int .i64 (K + 1 + n1)] W (Gives W (.int .i64 (K + 1 + n1 + n2)))) := fun W q => heldI_any _ (K + 1 + n1) (hri2.below (Quiet.below q)) (by omega) (by omega) (by omega)
      have H3 : Hid (∀ W, Quiet w W → Calls Try.prog 62 #[.slice A3 n3 c3, .int .i64 (K + 1 + n1 + n2)] W (Gives W (.int .i64 (K + 1 + n1 + n2 + n3)))) := fun W q => heldI_any _ (K + 1 + n1 + n2) (hri3.below (Quiet.below q)) (by omega) (by omega) (by omega)
      clear f0 f1 f2 f3 hf hf2 hf3 kb hK hu hu2 hu3 hu0 ek0 ek1 ek2 ek3 hl1 hl2 hl3 hf' hf2' hf3' hf0 hri hri2 hri3
      go_wp2_with (first
        | (go_at_call 62; (with_reducible refine (H1.out _ ?_).mono ?_); (first | exact ⟨_, rfl⟩ | exact ⟨_, (World.drewN_drewN _ _ _).symm⟩ | exact (by first | exact ⟨_, rfl⟩ | exact ⟨_, (World.drewN_drewN _ _ _).symm⟩ | exact Quiet.refl _ | (simp only [World.drewN_drewN]; exact ⟨_, rfl⟩))); rintro e w1 ⟨rfl, k1, rfl⟩)
        | (go_at_call 62; (with_reducible refine (H2.out _ ?_).mono ?_); (first | exact ⟨_, rfl⟩ | exact ⟨_, (World.drewN_drewN _ _ _).symm⟩ | exact (by first | exact ⟨_, rfl⟩ | exact ⟨_, (World.drewN_drewN _ _ _).symm⟩ | exact Quiet.refl _ | (simp only [World.drewN_drewN]; exact ⟨_, rfl⟩))); rintro e w1 ⟨rfl, k2, rfl⟩)
        | (go_at_call 62; (with_reducible refine (H3.out _ ?_).mono ?_); (first | exact ⟨_, rfl⟩ | exact ⟨_, (World.drewN_drewN _ _ _).symm⟩ | exact (by first | exact ⟨_, rfl⟩ | exact ⟨_, (World.drewN_drewN _ _ _).symm⟩ | exact Quiet.refl _ | (simp only [World.drewN_drewN]; exact ⟨_, rfl⟩))); rintro e w1 ⟨rfl, k3, rfl⟩))
      go_roundw
      case rel => exact ⟨q + 1, by omega, by rw [EK3.out, ← HK.out], by go_num, (by first | exact ⟨_, rfl⟩ | exact ⟨_, (World.drewN_drewN _ _ _).symm⟩ | exact Quiet.refl _ | (simp only [World.drewN_drewN]; exact ⟨_, rfl⟩))⟩
      case measure => simp [intOf]; omega
    · obtain rfl : q = n := by omega
      go_wp2
      go_ret
      exact ⟨rfl, (by first | exact ⟨_, rfl⟩ | exact ⟨_, (World.drewN_drewN _ _ _).symm⟩ | exact Quiet.refl _ | (simp only [World.drewN_drewN]; exact ⟨_, rfl⟩))⟩
end Go.Proofs.Ytnljlophgolejaa
