/- The closure of PuzzleProduct. -/
import Derived.Test.YtnljlophgolejaaSumZ
import Derived.Test.YtnljlophgolejaaShapes
import Derived.Test.YtnljlophgolejaaCountI
namespace Go.Proofs.Ytnljlophgolejaa
open Go.RowKit
theorem OP.leng {w : World} {base b : Nat} {v : Value} {ps : List (List Int × Int)} {cells : List Value} (h : OP w base b v ps cells) {k : Nat} (hk : ∀ x ∈ ps, x.1.length ≤ k) : ∀ j, j < ps.length → (nthP ps j).1.length ≤ k := fun j hj => hk _ (nthP_mem hj)
theorem ProF.sum {M : Int} {s : List (List Int × Int)} {m : Nat} (h : ProF M s m) (hM : 0 ≤ M) : Srt s ∧ (∀ x ∈ s, -1000000000000000000 ≤ x.2 ∧ x.2 ≤ 1000000000000000000) ∧ s.length ≤ 100000000000 ∧ ∀ x ∈ s, x.1.length ≤ 1000 := by
  obtain ⟨N, h1, h2, h3, h4, h5, h6⟩ := h
  have e : (N : Int) * M ≤ ((N + m : Nat) : Int) * M := Int.mul_le_mul_of_nonneg_right (by omega) hM
  exact ⟨h1, fun x hx => by have := h3 x hx; omega, by omega, h6⟩

set_option maxRecDepth 100000 in
set_option maxHeartbeats 1000000 in
theorem seeP_any {w0 w : World} {g n : Nat} {s : List (List Int × Int)} {O : Nat → Prop} {p : PZ} {B m : Nat} {A1 A2 A3 : Option Addr} {n1 n2 n3 c1 c2 c3 : Nat}
    (hg : w0.heap.size ≤ g) (hi : ProI w0 [] g w s O) (hs : ProF 1 s m) (hp : okP n p) (hB : B ≤ w.heap.size)
    (ht : Three w B (.slice A1 n1 c1) (.slice A2 n2 c2) (.slice A3 n3 c3) p.1 p.2.1 p.2.2) :
    Calls Try.prog 65 #[.agg #[.int .i64 (n : Int), .slice A1 n1 c1, .slice A2 n2 c2, .slice A3 n3 c3], .pointer (some ⟨g, 0, none⟩)] w
      (fun e w' => e = .returned (.bool true) ∧ ∃ O' : Nat → Prop, ProI w0 [] g w' (proS n (fun _ => 1) s p) O' ∧ (∀ k, O' k → O k ∨ B ≤ k) ∧ Kept O w w') := by
  have hlen := puz_len hp
  have r1 := ht.1.ri
  have r2 := ht.2.1.ri
  have r3 := ht.2.2.1.ri
  have e1 := r1.1
  have e2 := r2.1
  have e3 := r3.1
  obtain ⟨hS, hC, hN, hL⟩ := hs.sum (by omega)
  obtain ⟨v, cells, hO, hbg, hop⟩ := hi.ex
  have hbel := hi.bel
  obtain ⟨A0, n0, c0, rfl, hn0, hc0, hc63⟩ := hop.form
  have hsz := hbel.size
  have hgl := hbg.lt
  have f0 := hbg.cell (j := 0) rfl
  have HP := Lib.hid hp
  have R1 := Lib.hid r1
  have R2 := Lib.hid r2
  have R3 := Lib.hid r3
  have HO := Lib.hid hO
  have HOP := Lib.hid hop
  have HBG := Lib.hid hbg
  have HC := Lib.hid hC
  have HS := Lib.hid hS
  have HL := Lib.hid hL
  have HBEL := Lib.hid hbel
  have hn1 : n1 ≤ 36 := by omega
  have hn2 : n2 ≤ 36 := by omega
  have hn3 : n3 ≤ 36 := by omega
  clear hi hp hs ht r1 r2 r3 e1 e2 e3 hlen hO hop hbg hC hS hL hbel
  go_enter Try.func65, Try.ntmps65
  go_wp2_with fail
  refine (iSides_yes c1 c2 c3 n (R1.out.alloc _) (R2.out.alloc _) (R3.out.alloc _) (by omega) (by omega) (by omega) HP.out).mono ?_
  rintro e w1 ⟨A4, n4, c4, A5, n5, c5, A6, n6, c6, rfl, t1, b1'⟩
  have b1 : Below w.heap.size w w1 := ((Below.refl _ _).alloc (Nat.le_refl _) _).trans (b1'.mono (by simp))
  have r6 := t1.2.2.1.ri
  obtain rfl : n6 = n := by rw [← r6.1]; exact gen_len _ _
  have hl7 := (puz_len HP.out).2.2
  have hb1 := b1.size
  have HB1 := Lib.hid b1
  have R6 := Lib.hid r6
  clear t1 b1' b1 r6
  go_wp2_with fail
  have hcall := iShapeStr_any c6 R6.out (by omega)
  refine hcall.mono ?_
  clear hcall
  intro e w2 hm
  obtain ⟨A7, n7, c7, he, ho7, r7, hl7', b2⟩ := hm
  clear ho7 hl7'
  subst he
  generalize onesStr _ = k1
  generalize isStrB _ = k2
  have b3 : Below w.heap.size w w2 := HB1.out.trans (b2.mono hb1)
  have k2 := HBG.out.below b3 hgl
  have f2 := k2.cell (j := 0) rfl
  have hn7 : n7 ≤ 1000 := by rw [← r7.1]; exact shapeStr_len _
  have h4 := HOP.out.below b3
  have hb3 := b3.size
  have H4 := Lib.hid h4
  have HB3 := Lib.hid b3
  have R7 := Lib.hid r7
  clear b2 b3 k2 h4 r7
  go_wp2_with fail
  refine (summedZ_any c7 1 R7.out (by omega) H4.out HS.out HC.out hN (by omega) (H4.out.leng fun x hx => Nat.le_trans (HL.out x hx) (by omega)) (by omega) (by omega)).mono ?_
  intro e w5 hq
  obtain ⟨v', ⟨rfl, A8, n8, c8, rfl⟩, g5, hfin⟩ := ProI.fin (X := []) (fun _ h => by simp at h) HO.out ⟨hg, HBG.out⟩ (fun _ h => by simp at h) HBEL.out hB HB3.out H4.out hq
  have f5 := g5.cell (j := 0) rfl
  have z5 := g5.frozen (j := 0)
  have HF := Lib.hid hfin
  clear hfin hq g5
  go_wp2
  go_ret
  exact ⟨rfl, HF.out⟩

theorem proC {w0 : World} {g n : Nat} (hg : w0.heap.size ≤ g) :
    Clos Try.prog 65 #[.pointer (some ⟨g, 0, none⟩)] w0.heap.size n (List (List Int × Int)) (ProI w0 [] g) (proS n (fun _ => 1)) (fun _ _ => true) (ProF 1) (okP n) where
  ent := ent_of Try.func65 (by kernel_rfl) rfl
  ge hi k hk := hi.ge hg (fun _ h => by simp at h) k hk
  keep hi hk := hi.keep hk
  next h _ := h.next (by omega)
  less h hm := h.less (by omega) hm
  call hi hf hp _ hB _ ht := seeP_any hg hi hf hp hB ht
end Go.Proofs.Ytnljlophgolejaa

/- PuzzleProduct of the program. -/
namespace Go.Proofs.Ytnljlophgolejaa
open Go.RowKit

/-- Parts and a word whether they are asked for, made. -/
def MakesPB (w : World) (ps : List (List Int × Int)) (ok : Bool) : Ending → World → Prop := fun e w' =>
  ∃ A n c cells, e = .returned (.tuple #[.slice A n c, .bool ok]) ∧ OP w' w.heap.size w.heap.size (.slice A n c) ps cells ∧ ps.length = n ∧ (n ≤ c ∧ c ≤ 9223372036854775807) ∧ Below w.heap.size w w'
theorem MakesPB.of {w w' : World} {v : Value} {ps : List (List Int × Int)} {cells : List Value} {ok : Bool} (h : OP w' w.heap.size w.heap.size v ps cells) (hb : Below w.heap.size w w') : MakesPB w ps ok (.returned (.tuple #[v, .bool ok])) w' := by
  obtain ⟨A, n, c, rfl, h1, h2, h3⟩ := h.form
  exact ⟨A, n, c, cells, rfl, h, h1, ⟨h2, h3⟩, hb⟩
/-- The product of two strings by puzzles. -/
def ppB (a b : List Int) : List (List Int × Int) := if alikeB a b = true then (spAll false a b).foldl (proS a.length fun _ => 1) [] else []

set_option maxRecDepth 100000 in
set_option maxHeartbeats 1000000 in
theorem iPPro_any {Aa Ab : Option Addr} {na nb : Nat} {a b : List Int} {w : World} (ca cb : Nat) (ha : RI w Aa na a) (hb : RI w Ab nb b) (hna : na ≤ 1000000000) (hnb : nb ≤ 1000000000) :
    Calls Try.prog 25 #[.slice Aa na ca, .slice Ab nb cb] w (MakesPB w (ppB a b) (alikeB a b)) := by
  have HA := Lib.hid ha
  have HB := Lib.hid hb
  obtain ⟨t1, ht1⟩ : ∃ t, t = alikeB a b := ⟨_, rfl⟩
  have H1 : Hid (∀ W, Below w.heap.size w W → Calls Try.prog 56 #[.slice Aa na ca, .slice Ab nb cb] W (Gives W (.bool t1))) := fun W bW => by rw [ht1]; exact iAlike_any _ _ (HA.out.below bW) (HB.out.below bW) hna hnb
  have HT1 := Lib.hid ht1
  clear ht1 ha hb
  rcases t1 with _ | _
  · have HE : Hid (ppB a b = []) := by show _ = _; rw [ppB, if_neg (by rw [← HT1.out]; simp)]
    go_enter Try.func25, Try.ntmps25
    go_wp2_with (go_at_call 56; (with_reducible refine (H1.out _ ?_).mono ?_); (exact Below.refl _ _); rintro e w' ⟨rfl, q1, rfl⟩)
    go_ret2
    rw [HE.out, ← HT1.out]
    exact MakesPB.of (OF.nil_ _ _ _ _ _) (Quiet.below ⟨_, rfl⟩)
  obtain ⟨h1, h2, h3, h4⟩ := alike_str HT1.out.symm
  have hl7 := (isStrB_iff.1 h1).1
  have hna2 : a.length = na := HA.out.1
  have hnn : nb = na := by rw [← HB.out.1, ← h3, hna2]
  subst hnn
  have HE : Hid (ppB a b = (spAll false a b).foldl (proS nb fun _ => 1) []) := by show _ = _; rw [ppB, if_pos HT1.out.symm, hna2]
  have HS1 := Lib.hid h1
  have HOK : Hid (∀ q ∈ tlAll false a b, okP nb q) := by have := tl_okP (wt := false) HT1.out.symm; rw [hna2] at this; exact this
  have hn17 : 1 ≤ nb ∧ nb ≤ 7 := by omega
  clear h1 h2 h3 h4 hl7 hna2
  go_enter Try.func25, Try.ntmps25
  go_wp2_with (go_at_call 56; (with_reducible refine (H1.out _ ?_).mono ?_); (exact Below.refl _ _); rintro e w' ⟨rfl, q1, rfl⟩)
  obtain ⟨wy, ewy⟩ : ∃ W : World, W = (w.drewN q1).alloc (.cells #[] 62) := ⟨_, rfl⟩
  have by_ : Below w.heap.size w wy := by rw [ewy]; exact (below_drewN (Below.refl _ _) _).alloc (Nat.le_refl _) _
  have oy : OP wy w.heap.size w.heap.size (.slice (some ⟨w.heap.size, 0, none⟩) 0 0) [] [] := by rw [ewy]; exact OP.lit (w.drewN q1) _ _ (Nat.le_refl _)
  have hsy : wy.heap.size = w.heap.size + 1 := by rw [ewy]; show ((w.drewN q1).alloc _).heap.size = _; simp
  obtain ⟨wz, ewz⟩ : ∃ W : World, W = wy.alloc (.cells #[.slice (some ⟨w.heap.size, 0, none⟩) 0 0] 33) := ⟨_, rfl⟩
  have bz : Below w.heap.size w wz := by rw [ewz]; exact by_.alloc by_.size _
  have oz : OP wz w.heap.size w.heap.size (.slice (some ⟨w.heap.size, 0, none⟩) 0 0) [] [] := by rw [ewz]; exact OP.below oy ((Below.refl _ _).alloc (Nat.le_refl _) _)
  have kz : BK wz (w.heap.size + 1) 33 [.slice (some ⟨w.heap.size, 0, none⟩) 0 0] := by rw [ewz, ← hsy]; exact BK.new wy _ _
  rw [← ewy, ← ewz]
  clear ewy by_ oy hsy ewz
  have hI : ProI w [] (w.heap.size + 1) wz [] (fun k => k = w.heap.size + 1 ∨ k = w.heap.size) := ⟨⟨_, [], fun k => by simp [Value.ownBlock]; omega, kz, oz⟩, fun _ h => by simp at h, bz⟩
  have hlen : (tlAll false a b).length ≤ 268435456 := by rw [tlAll_eq HS1.out]; exact spAll_len7 HS1.out
  refine (tilings_any (n := nb) false w a b Aa Ab ca cb (proC (n := nb) (Nat.le_succ _)) hn17.2 hn17.1 HA.out HB.out hI bz ⟨0, by simp [Srt], by simp, by simp, by omega, by omega, by simp⟩ HOK.out).mono ?_
  rintro e w3 ⟨rfl, O', i3, -, -⟩
  rw [seeAll_all (fun _ _ => rfl), tlAll_eq HS1.out, ← HE.out] at i3
  obtain ⟨v, cells, -, k3, o3⟩ := i3.ex
  obtain ⟨A3, n3, c3, rfl, -, -, -⟩ := o3.form
  have g3 := k3.cell (j := 0) rfl
  have HF : Hid (MakesPB w (ppB a b) (alikeB a b) (.returned (.tuple #[.slice A3 n3 c3, .bool true])) w3) := by rw [← HT1.out]; exact MakesPB.of o3 i3.bel
  clear i3 hlen hI bz kz oz k3 o3
  go_wp2
  go_ret2
  exact HF.out
end Go.Proofs.Ytnljlophgolejaa
