/- The closure of PuzzleProduct. -/
import Derived.Test.YtnljlophgolejaaSumZ
import Derived.Test.YtnljlophgolejaaShapes
namespace Go.Proofs.Ytnljlophgolejaa
open Go.RowKit
theorem OP.leng {w : World} {base b : Nat} {v : Value} {ps : List (List Int × Int)} {cells : List Value} (h : OP w base b v ps cells) {k : Nat} (hk : ∀ x ∈ ps, x.1.length ≤ k) : ∀ j, j < ps.length → (nthP ps j).1.length ≤ k := fun j hj => hk _ (nthP_mem hj)
theorem ProF.sum {M : Int} {s : List (List Int × Int)} {m : Nat} (h : ProF M s m) (hM : 0 ≤ M) : Srt s ∧ (∀ x ∈ s, -1000000000000000000 ≤ x.2 ∧ x.2 ≤ 1000000000000000000) ∧ s.length ≤ 100000000000 ∧ ∀ x ∈ s, x.1.length ≤ 1000 := by
  obtain ⟨N, h1, h2, h3, h4, h5, h6⟩ := h
  have e : (N : Int) * M ≤ ((N + m : Nat) : Int) * M := Int.mul_le_mul_of_nonneg_right (by omega) hM
  exact ⟨h1, fun x hx => by have := h3 x hx; omega, by omega, h6⟩

set_option maxRecDepth 100000 in
set_option maxHeartbeats 1000000 in
theorem seeP_any {w0 w : World} {g n : Nat} {s : List (List Int × Int)} {O : Nat → Prop} {p : PZ} {B m : Nat} {A1 A2 A3 : Option Addr} {n1 n2 n3 c1 c2 c3 : Nat}
    (hg : w0.heap.size ≤ g) (hi : ProI w0 [] g w s O) (hs : ProF 1 s m) (hp : okP n p) (hB : B ≤ w.heap.size)
    (ht : Three w B (.slice A1 n1 c1) (.slice A2 n2 c2) (.slice A3 n3 c3) p.1 p.2.1 p.2.2) :
    Calls Try.prog 65 #[.agg #[.int .i64 (n : Int), .slice A1 n1 c1, .slice A2 n2 c2, .slice A3 n3 c3], .pointer (some ⟨g, 0, none⟩)] w
      (fun e w' => e = .returned (.bool true) ∧ ∃ O' : Nat → Prop, ProI w0 [] g w' (proS n (fun _ => 1) s p) O' ∧ (∀ k, O' k → O k ∨ B ≤ k) ∧ Kept O w w') := by
  have hlen := puz_len hp
  have r1 := ht.1.ri
  have r2 := ht.2.1.ri
  have r3 := ht.2.2.1.ri
  have e1 := r1.1
  have e2 := r2.1
  have e3 := r3.1
  obtain ⟨hS, hC, hN, hL⟩ := hs.sum (by omega)
  obtain ⟨v, cells, hO, hbg, hop⟩ := hi.ex
  have hbel := hi.bel
  obtain ⟨A0, n0, c0, rfl, hn0, hc0, hc63⟩ := hop.form
  have hsz := hbel.size
  have hgl := hbg.lt
  have f0 := hbg.cell (j := 0) rfl
  have HP := Lib.hid hp
  have R1 := Lib.hid r1
  have R2 := Lib.hid r2
  have R3 := Lib.hid r3
  have HO := Lib.hid hO
  have HOP := Lib.hid hop
  have HBG := Lib.hid hbg
  have HC := Lib.hid hC
  have HS := Lib.hid hS
  have HL := Lib.hid hL
  have HBEL := Lib.hid hbel
  have hn1 : n1 ≤ 36 := by omega
  have hn2 : n2 ≤ 36 := by omega
  have hn3 : n3 ≤ 36 := by omega
  clear hi hp hs ht r1 r2 r3 e1 e2 e3 hlen hO hop hbg hC hS hL hbel
  go_enter Try.func65, Try.ntmps65
  go_wp2_with fail
  refine (iSides_yes c1 c2 c3 n (R1.out.alloc _) (R2.out.alloc _) (R3.out.alloc _) (by omega) (by omega) (by omega) HP.out).mono ?_
  rintro e w1 ⟨A4, n4, c4, A5, n5, c5, A6, n6, c6, rfl, t1, b1'⟩
  have b1 : Below w.heap.size w w1 := ((Below.refl _ _).alloc (Nat.le_refl _) _).trans (b1'.mono (by simp))
  have r6 := t1.2.2.1.ri
  obtain rfl : n6 = n := by rw [← r6.1]; exact gen_len _ _
  have hl7 := (puz_len HP.out).2.2
  have hb1 := b1.size
  have HB1 := Lib.hid b1
  have R6 := Lib.hid r6
  clear t1 b1' b1 r6
  go_wp2_with fail
  have hcall := iShapeStr_any c6 R6.out (by omega)
  refine hcall.mono ?_
  clear hcall
  intro e w2 hm
  obtain ⟨A7, n7, c7, he, ho7, r7, hl7', b2⟩ := hm
  clear ho7 hl7'
  subst he
  generalize onesStr _ = k1
  generalize isStrB _ = k2
  have b3 : Below w.heap.size w w2 := HB1.out.trans (b2.mono hb1)
  have k2 := HBG.out.below b3 hgl
  have f2 := k2.cell (j := 0) rfl
  have hn7 : n7 ≤ 1000 := by rw [← r7.1]; exact shapeStr_len _
  have h4 := HOP.out.below b3
  have hb3 := b3.size
  have H4 := Lib.hid h4
  have HB3 := Lib.hid b3
  have R7 := Lib.hid r7
  clear b2 b3 k2 h4 r7
  go_wp2_with fail
  refine (summedZ_any c7 1 R7.out (by omega) H4.out HS.out HC.out hN (by omega) (H4.out.leng fun x hx => Nat.le_trans (HL.out x hx) (by omega)) (by omega) (by omega)).mono ?_
  intro e w5 hq
  obtain ⟨v', ⟨rfl, A8, n8, c8, rfl⟩, g5, hfin⟩ := ProI.fin (X := []) (fun _ h => by simp at h) HO.out ⟨hg, HBG.out⟩ (fun _ h => by simp at h) HBEL.out hB HB3.out H4.out hq
  have f5 := g5.cell (j := 0) rfl
  have z5 := g5.frozen (j := 0)
  have HF := Lib.hid hfin
  clear hfin hq g5
  go_wp2
  go_ret
  exact ⟨rfl, HF.out⟩

theorem proC {w0 : World} {g n : Nat} (hg : w0.heap.size ≤ g) :
    Clos Try.prog 65 #[.pointer (some ⟨g, 0, none⟩)] w0.heap.size n (List (List Int × Int)) (ProI w0 [] g) (proS n (fun _ => 1)) (fun _ _ => true) (ProF 1) (okP n) where
  ent := ent_of Try.func65 (by kernel_rfl) rfl
  ge hi k hk := hi.ge hg (fun _ h => by simp at h) k hk
  keep hi hk := hi.keep hk
  next h _ := h.next (by omega)
  less h hm := h.less (by omega) hm
  call hi hf hp _ hB _ ht := seeP_any hg hi hf hp hB ht
end Go.Proofs.Ytnljlophgolejaa
