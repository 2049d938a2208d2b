/- Marks of slices of shapes with powers. -/
import Derived.Test.YtmodpicemlkbjaaQParts
import Derived.Test.YtmodpicemlkbjaaWords
namespace Go.Proofs.Ytmodpicemlkbjaa
open Go.RowKit

theorem smallU_big {ps : List QT} (h : ∀ k, k < ps.length → (nthQ ps k).2.1.length ≤ 20) : ∀ x ∈ qF ps, wF x ≤ 20 := by
  intro x hx
  simp only [qF, List.mem_flatMap] at hx
  obtain ⟨p, hp, hx⟩ := hx
  obtain ⟨k, hk, e⟩ := List.getElem_of_mem hp
  have := h k hk
  rw [show nthQ ps k = p from by simp [nthQ, List.getD, hk, e]] at this
  simp at hx
  rcases hx with rfl | rfl | rfl
  · simp [wF]
  · exact this
  · simp [wF]

set_option maxRecDepth 100000 in
set_option maxHeartbeats 1000000 in
theorem markQPartS_big {v : Value} {base b hi : Nat} {ps : List QT} {cells : List Value} {w : World} (k0 : Int) (h : OU w base b v ps cells) (hin : In base hi v cells) (h0 : 0 ≤ k0) (h1 : k0 ≤ 100000000000)
    (hn : ps.length ≤ 30000000) (hw : ∀ x ∈ qF ps, wF x ≤ 20) :
    Calls Try.prog 42 #[v, .int .i64 k0] w (fun e w' => ∃ cells', e = .returned (.int .i64 (kF (qF ps) k0 (ps.length * 3))) ∧ OF w' base b 46 3 v ps.length (markedF (qF ps) k0 (ps.length * 3)) cells' ∧ Within base hi w w') := by
  obtain ⟨A, c, rfl, hc, _⟩ := OF.form h
  obtain ⟨n, hn'⟩ : ∃ n, n = ps.length := ⟨_, rfl⟩
  have h' : OF w base b 46 3 (.slice A n c) n (qF ps) cells := by rw [hn']; exact h
  rw [← hn'] at hn hc hin ⊢
  have HN := Lib.hid hn'
  have HW := Lib.hid hw
  clear hn' hw h
  go_enter Try.func42, Try.ntmps42
  go_wp2
  go_loopw [1, 5] (fun k i wr => ∃ (q : Nat) (cs : List Value), q ≤ n ∧ k = .int .i64 (kF (qF ps) k0 (q * 3)) ∧ i = .int .i64 q ∧ OF wr base b 46 3 (.slice A n c) n (markedF (qF ps) k0 (q * 3)) cs ∧ In base hi (.slice A n c) cs ∧ Within base hi w wr) (fun _ i _ => n - (intOf i).toNat)
  case atStart => exact ⟨0, cells, Nat.zero_le _, rfl, rfl, by rw [Nat.zero_mul, markedF_zero]; exact h', hin, Within.refl _ _ _⟩
  case round =>
    clear h' hin
    obtain ⟨q, cs, hq, rfl, rfl, ho, hin, hwi⟩ := hrel
    by_cases hlt : q < n
    · obtain ⟨G, cc, hG, _⟩ := OF.shape ho (by omega)
      obtain ⟨rfl, e2, e3⟩ := slice_inj hG
      clear e2 e3
      have f0 := qF_at0 (ps := ps) (k := q) (by rw [← HN.out]; exact hlt)
      have f1 := qF_at1 (ps := ps) (k := q) (by rw [← HN.out]; exact hlt)
      have f2 := qF_at2 (ps := ps) (k := q) (by rw [← HN.out]; exact hlt)
      have F0 := Lib.hid f0
      have F1 := Lib.hid f1
      have F2 := Lib.hid f2
      -- the fields as they stand
      obtain ⟨up, hup, hfp⟩ := ho.2.1.at_ (markedF_new f0)
      have hfp' : up = .int .i64 (nthQ ps q).1 := hfp
      subst hfp'
      have c0 : wr.cell? ⟨G, q * 3, none⟩ = some (.int .i64 (nthQ ps q).1) := by rw [OF.cellF ho (by omega), hup]
      have z0 := OF.frozenF ho (q * 3)
      have hm1w := (markedF_at (k0 := k0) (m := q * 3) (List.getElem?_eq_some_iff.1 f1).1).trans (by rw [if_neg (by omega), getF_at f1])
      obtain ⟨uw, huw, hfw⟩ := ho.2.1.at_ hm1w
      have cw1 : wr.cell? ⟨G, q * 3 + 1, none⟩ = some uw := by rw [OF.cellF ho (by omega), huw]
      have kb := kF_bound (k0 := k0) HW.out (by omega) (q * 3)
      have kb2 : kF (qF ps) k0 (q * 3) ≤ 400000000000 := by
        have : q * 3 * 20 ≤ 30000000 * 3 * 20 := by omega
        omega
      have kb1 := kb.1
      obtain ⟨K, hK⟩ : ∃ K, K = kF (qF ps) k0 (q * 3) := ⟨_, rfl⟩
      have HK := Lib.hid hK
      rw [← hK] at kb1 kb2 ⊢
      have S0 := OF.setInt ho (by decide) (markedF_new f0) K
      have e0 : (markedF (qF ps) k0 (q * 3)).set (q * 3) (.inl K) = markedF (qF ps) k0 (q * 3 + 1) := by
        rw [← markedF_step F0.out, ← HK.out]; rfl
      rw [e0] at S0
      obtain ⟨s0, g0⟩ := S0
      obtain ⟨wa, hwa⟩ : ∃ wa, wa = wr.setCell ⟨G, q * 3, none⟩ (.int .i64 K) := ⟨_, rfl⟩
      rw [← hwa] at s0 g0
      obtain ⟨csa, hcsa⟩ : ∃ csa, csa = cs.set (q * 3) (.int .i64 K) := ⟨_, rfl⟩
      rw [← hcsa] at s0
      obtain ⟨u, hu, hf⟩ := s0.2.1.at_ (markedF_new f1)
      have hf' : OI wa b u (nthQ ps q).2.1 := hf
      obtain rfl : uw = u := by
        rw [hcsa, List.getElem?_set_ne (by omega), huw] at hu
        exact Option.some.inj hu
      obtain ⟨A1, n1, c1, rfl, hri, hcc, hnn, _⟩ := hf'.form
      have hl : n1 ≤ 20 := by
        have := HW.out _ (List.mem_of_getElem? f1)
        rw [← hri.1]; exact this
      have HU := Lib.hid hu
      have HI := Lib.hid hri.1
      have HS0 := Lib.hid s0
      have HG0 := Lib.hid g0
      have HIN := Lib.hid hin
      have HWI := Lib.hid hwi
      have hG2 := hin.1 G rfl
      have ek1 : kF (qF ps) k0 (q * 3 + 1) = K + 1 := by rw [kF_step F0.out, ← HK.out]; rfl
      have EK1 := Lib.hid ek1
      have HINa : Hid (In base hi (.slice (some ⟨G, 0, none⟩) n c) csa) := ⟨hin.1, fun u hu k hk => by
        rw [hcsa] at hu
        rcases List.mem_or_eq_of_mem_set hu with h | rfl
        · exact hin.2 u h k hk
        · simp [Value.ownBlock] at hk⟩
      have HWA := Lib.hid hwa
      have HOF := Lib.hid hf'
      clear f0 f1 f2 hfp kb hG hK hri hu hup ho hin hwi e0 s0 g0 hf ek1 hf' hwa huw hfw hm1w
      go_wp2_with fail
      rw [← HWA.out]
      refine (markI_any (K + 1) HOF.out (by omega) (by omega) (by omega)).mono ?_
      rintro e w1 ⟨rfl, o1, g1⟩
      have s1 := OF.setInner HS0.out (by decide) (markedF_new F1.out) HU.out g1 o1
      have e1 : (markedF (qF ps) k0 (q * 3 + 1)).set (q * 3 + 1) (.inr (upFrom (K + 1) n1)) = markedF (qF ps) k0 (q * 3 + 1 + 1) := by
        rw [← markedF_step F1.out, EK1.out, ← HI.out]; rfl
      rw [e1] at s1
      have hm2 := markedF_new (k0 := k0) F2.out
      obtain ⟨u2, hu2, hf2⟩ := s1.2.1.at_ hm2
      have hf2' : u2 = .int .i64 (nthQ ps q).2.2 := hf2
      subst hf2'
      have c2' : w1.cell? ⟨G, q * 3 + 2, none⟩ = some (.int .i64 (nthQ ps q).2.2) := by rw [OF.cellF s1 (by omega), hu2]
      have f2' := OF.frozenF s1 (q * 3 + 2)
      have ST := Lib.hid (OF.setInt s1 (by decide) hm2 (K + 1 + n1))
      clear s1 e1 hm2 hf2 hu2
      go_wp2
      have ek : kF (qF ps) k0 (q * 3 + 1 + 1) = K + 1 + n1 := by rw [kF_step F1.out, EK1.out, ← HI.out]; rfl
      have ek2 : kF (qF ps) k0 ((q + 1) * 3) = K + 1 + n1 + 1 := by
        rw [show (q + 1) * 3 = q * 3 + 1 + 1 + 1 by omega, kF_step F2.out, ek]; rfl
      have em : (markedF (qF ps) k0 (q * 3 + 1 + 1)).set (q * 3 + 2) (.inl (K + 1 + n1)) = markedF (qF ps) k0 ((q + 1) * 3) := by
        rw [show (q + 1) * 3 = q * 3 + 1 + 1 + 1 by omega, ← markedF_step F2.out, ek]; rfl
      go_roundw
      case rel =>
        refine ⟨q + 1, csa.set (q * 3 + 2) (.int .i64 (K + 1 + n1)), by omega, by rw [ek2], by go_num, by rw [← em]; exact ST.out.1, ⟨HIN.out.1, ?_⟩, ?_⟩
        · intro u hu k hk
          rcases List.mem_or_eq_of_mem_set hu with h | rfl
          · exact HINa.out.2 u h k hk
          · simp [Value.ownBlock] at hk
        · exact ((HWI.out.grown HG0.out (fun g e => by injection e with e; subst e; exact hG2)).grown g1 (fun g e => HINa.out.2 _ (List.mem_of_getElem? HU.out) g e)).grown ST.out.2 (fun g e => by injection e with e; subst e; exact hG2)
      case measure => simp [intOf]; omega
    · obtain rfl : q = n := by omega
      have HO := Lib.hid ho
      clear ho
      go_wp2
      go_ret
      exact ⟨cs, rfl, HO.out, hwi⟩

set_option maxRecDepth 100000 in
set_option maxHeartbeats 1000000 in
theorem heldQPartS_big {v : Value} {base b : Nat} {ps : List QT} {cells : List Value} {w : World} (k0 : Int) (h : OF w base b 46 3 v ps.length (markedF (qF ps) k0 (ps.length * 3)) cells) (h0 : 0 ≤ k0) (h1 : k0 ≤ 100000000000)
    (hn : ps.length ≤ 30000000) (hw : ∀ x ∈ qF ps, wF x ≤ 20) :
    Calls Try.prog 43 #[v, .int .i64 k0] w (Gives w (.int .i64 (kF (qF ps) k0 (ps.length * 3)))) := by
  obtain ⟨A, c, rfl, hc, _⟩ := OF.form h
  obtain ⟨n, hn'⟩ : ∃ n, n = ps.length := ⟨_, rfl⟩
  rw [← hn'] at hn hc h ⊢
  have HN := Lib.hid hn'
  have HW := Lib.hid hw
  clear hn' hw
  go_enter Try.func43, Try.ntmps43
  go_wp2
  go_loopw [1, 5] (fun k i wr => ∃ (q : Nat), q ≤ n ∧ k = .int .i64 (kF (qF ps) k0 (q * 3)) ∧ i = .int .i64 q ∧ Quiet w wr) (fun _ i _ => n - (intOf i).toNat)
  case atStart => exact ⟨0, Nat.zero_le _, rfl, rfl, (by first | exact ⟨_, rfl⟩ | exact ⟨_, (World.drewN_drewN _ _ _).symm⟩ | exact Quiet.refl _ | (simp only [World.drewN_drewN]; exact ⟨_, rfl⟩))⟩
  case round =>
    obtain ⟨q, hq, rfl, rfl, ⟨qq, rfl⟩⟩ := hrel
    by_cases hlt : q < n
    · obtain ⟨G, cc, hG, _⟩ := OF.shape h (by omega)
      obtain ⟨rfl, e2, e3⟩ := slice_inj hG
      clear e2 e3 hG
      have f0 := qF_at0 (ps := ps) (k := q) (by rw [← HN.out]; exact hlt)
      have f1 := qF_at1 (ps := ps) (k := q) (by rw [← HN.out]; exact hlt)
      have f2 := qF_at2 (ps := ps) (k := q) (by rw [← HN.out]; exact hlt)
      have F0 := Lib.hid f0
      have F1 := Lib.hid f1
      have F2 := Lib.hid f2
      obtain ⟨u0, hu0, hf0⟩ := h.2.1.at_ (markedF_old (k0 := k0) (m := n * 3) f0 (by omega))
      have hf0' : u0 = .int .i64 (kF (qF ps) k0 (q * 3)) := hf0
      subst hf0'
      obtain ⟨u, hu, hf⟩ := h.2.1.at_ (markedF_old (k0 := k0) (m := n * 3) f1 (by omega))
      have hf' : OI w b u (upFrom (kF (qF ps) k0 (q * 3 + 1)) (nthQ ps q).2.1.length) := hf
      obtain ⟨A1, n1, c1, rfl, hri, hcc, hnn, _⟩ := hf'.form
      obtain ⟨u', hu', hf2⟩ := h.2.1.at_ (markedF_old (k0 := k0) (m := n * 3) f2 (by omega))
      have hf2' : u' = .int .i64 (kF (qF ps) k0 (q * 3 + 2)) := hf2
      subst hf2'
      have kb := kF_bound (k0 := k0) HW.out (by omega) (q * 3)
      have hl1 : (nthQ ps q).2.1.length = n1 := by have := hri.1; rwa [upFrom_len] at this
      rw [hl1] at hri
      have hl : n1 ≤ 20 := by
        have := HW.out _ (List.mem_of_getElem? f1)
        rw [← hl1]; exact this
      have kb2 : kF (qF ps) k0 (q * 3) ≤ 400000000000 := by
        have : q * 3 * 20 ≤ 30000000 * 3 * 20 := by omega
        omega
      have kb1 := kb.1
      have ek0 : kF (qF ps) k0 (q * 3 + 1) = kF (qF ps) k0 (q * 3) + 1 := by rw [kF_step F0.out]; rfl
      have ek : kF (qF ps) k0 (q * 3 + 2) = kF (qF ps) k0 (q * 3) + 1 + n1 := by rw [show q * 3 + 2 = q * 3 + 1 + 1 from rfl, kF_step F1.out, ek0, ← hl1]; rfl
      have ek2 : kF (qF ps) k0 ((q + 1) * 3) = kF (qF ps) k0 (q * 3) + 1 + n1 + 1 := by
        rw [show (q + 1) * 3 = q * 3 + 2 + 1 by omega, kF_step F2.out, ek]; rfl
      rw [ek] at hu'
      rw [ek0] at hri
      have c0 : w.cell? ⟨G, q * 3, none⟩ = some (.int .i64 (kF (qF ps) k0 (q * 3))) := by rw [OF.cellF h (by omega), hu0]
      have c1' : w.cell? ⟨G, q * 3 + 1, none⟩ = some (.slice A1 n1 c1) := by rw [OF.cellF h (by omega), hu]
      have c2' : w.cell? ⟨G, q * 3 + 2, none⟩ = some (.int .i64 (kF (qF ps) k0 (q * 3) + 1 + n1)) := by rw [OF.cellF h (by omega), hu']
      obtain ⟨K, hK⟩ : ∃ K, K = kF (qF ps) k0 (q * 3) := ⟨_, rfl⟩
      have HK := Lib.hid hK
      have EK2 := Lib.hid ek2
      rw [← hK] at kb1 kb2 c0 c2' hri ⊢
      have hkk : (K != K) = false := by simp
      have hkk2 : (K + 1 + (n1 : Int) != K + 1 + (n1 : Int)) = false := by simp
      clear f0 f1 f2 hf kb hK hu hu' hu0 ek0 ek ek2 hl1 hf' hf2 hf0
      go_wp2_with (go_at_call 83; refine (heldI_any _ (K + 1) (hri.drewN _) (by omega) (by omega) (by omega)).mono ?_; rintro e w' ⟨rfl, q0, rfl⟩)
      go_roundw
      case rel => exact ⟨q + 1, by omega, by rw [EK2.out, ← HK.out], by go_num, (by first | exact ⟨_, rfl⟩ | exact ⟨_, (World.drewN_drewN _ _ _).symm⟩ | exact Quiet.refl _ | (simp only [World.drewN_drewN]; exact ⟨_, rfl⟩))⟩
      case measure => simp [intOf]; omega
    · obtain rfl : q = n := by omega
      go_wp2
      go_ret
      exact ⟨rfl, (by first | exact ⟨_, rfl⟩ | exact ⟨_, (World.drewN_drewN _ _ _).symm⟩ | exact Quiet.refl _ | (simp only [World.drewN_drewN]; exact ⟨_, rfl⟩))⟩
end Go.Proofs.Ytmodpicemlkbjaa
