/- KeyPoly of the reference: sorting the exponents. -/
import Derived.Test.YtgbojgmmingfdaaKeyLs
import Derived.Test.YtgbojgmmingfdaaDemS
import Derived.Test.YtgbojgmmingfdaaQDraw
namespace Go.Proofs.Ytgbojgmmingfdaa
open Go.RowKit

/-- The operators of a list of numbers, the last one first. -/
def opsK (up : List Nat) (L : List (Int × Int)) : List (Int × Int) := up.foldr (fun j X => demK j X) L
theorem opsK_snoc (up : List Nat) (j : Nat) (L : List (Int × Int)) : opsK (up ++ [j]) L = opsK up (demK j L) := by simp [opsK]
theorem keyM_fuel (n m : Nat) (e : List Int) (h : Ok5 e) (h1 : invL e ≤ n) (h2 : invL e ≤ m) : keyM n e = keyM m e := by
  rw [keyM_T n e h, keyM_T m e h, keyX_fuel n m e h1 h2]
/-- One more step of the sorting. -/
theorem ops_step {e a : List Int} {up : List Nat} {j : Nat} (ha : Ok5 a) (hj : j + 1 < a.length) (h : nth a j < nth a (j + 1)) (h0 : ∀ i, i < j → ¬ nth a i < nth a (i + 1)) (hk : keyM 10 e = opsK up (keyM 10 a)) : keyM 10 e = opsK (up ++ [j]) (keyM 10 (swA j a)) := by
  have i1 := inv_five ha.1
  have i2 := swA_inv j a hj h
  rw [hk, opsK_snoc, keyM_some 9 (firstAsc_some hj h h0), keyM_fuel 9 10 (swA j a) (ha.swA j) (by omega) (by omega)]
theorem ops_end {e a : List Int} {up : List Nat} (h0 : ∀ i, i + 1 < a.length → ¬ nth a i < nth a (i + 1)) (hk : keyM 10 e = opsK up (keyM 10 a)) : keyM 10 e = opsK up (monoK a) := by
  rw [hk, keyM_none 10 (firstAsc_none h0)]
theorem keyM_gd {n : Nat} {e : List Int} (h : Ok5 e) : ∀ x ∈ keyM n e, 0 ≤ x.1 ∧ x.1 ≤ 20000000000000 := fun x hx => by
  rw [keyM_T n e h] at hx
  obtain ⟨y, hy, e1⟩ := gatherK_mem hx
  obtain ⟨z, hz, rfl⟩ := List.mem_map.1 hy
  have hg := keyX_good n e h z hz
  rw [← e1]
  show 0 ≤ keyL z.1 ∧ keyL z.1 ≤ _
  rw [keyL_low]
  simp only [lowN]
  have a0 := hg.2 0
  have a1 := hg.2 1
  have a2 := hg.2 2
  have a3 := hg.2 3
  have a4 := hg.2 4
  have a5 := hg.2 5
  have a6 := hg.2 6
  omega
theorem keyM_absK : ∀ (n : Nat) (e : List Int), Ok5 e → absK (keyM n e) ≤ 5 ^ n
  | 0, e, _ => by simp [keyM, monoK, absK]
  | n + 1, e, h => by
    rw [keyM]
    rcases asc_cases e with ⟨j, h1, h2, h3, -⟩ | ⟨-, h3⟩
    · rw [h3]
      show absK (demK j (keyM n (swA j e))) ≤ _
      have hf := keyX_good n (swA j e) (h.swA j)
      have hb := back_good hf
      rw [← keyM_T n (swA j e) (h.swA j)] at hb
      have i1 := keyM_absK n (swA j e) (h.swA j)
      have e1 : absK (demK j (keyM n (swA j e))) ≤ absT (divL j ((raiK j (keyM n (swA j e))).map exT)) := by
        unfold demK divK
        refine Nat.le_trans (gatherK_abs _) ?_
        rw [absT_kc]; exact Nat.le_refl _
      have e2 : absT (divL j ((raiK j (keyM n (swA j e))).map exT)) ≤ absT ((raiK j (keyM n (swA j e))).map exT) * (5 : Int).toNat := by
        refine divL_abs fun x hx => ?_
        obtain ⟨y, hy, rfl⟩ := List.mem_map.1 hx
        unfold raiK at hy
        obtain ⟨z, hz, ez⟩ := gatherK_mem hy
        obtain ⟨t, ht, rfl⟩ := List.mem_map.1 hz
        obtain ⟨u, hu, rfl⟩ := List.mem_map.1 ht
        have hu2 := upE_ok (E := 4) (hb u hu) (i := j) (by have := h.1; omega)
        show ∀ i, 0 ≤ nth (expL y.1) i ∧ nth (expL y.1) i ≤ 5
        rw [← ez]
        show ∀ i, 0 ≤ nth (expL (keyL (upE j u.1))) i ∧ nth (expL (keyL (upE j u.1))) i ≤ 5
        rw [expL_keyL hu2.1 fun i _ => by have := hu2.2 i; omega]
        exact hu2.2
      have e3 : absT ((raiK j (keyM n (swA j e))).map exT) ≤ absK (keyM n (swA j e)) := by
        have a1 : absT ((raiK j (keyM n (swA j e))).map exT) = absK (raiK j (keyM n (swA j e))) := by unfold absT absK; rw [List.map_map]; rfl
        rw [a1]
        unfold raiK
        refine Nat.le_trans (gatherK_abs _) ?_
        rw [absT_kc, raL_abs]
        unfold absT absK; rw [List.map_map]; exact Nat.le_refl _
      have e4 : (5 : Int).toNat = 5 := rfl
      rw [e4] at e2
      rw [Nat.pow_succ]
      omega
    · rw [h3]
      have := pow5_pos (n + 1)
      simp [monoK, absK]
      omega
theorem keyM_lenK (n : Nat) (e : List Int) (h : Ok5 e) : (keyM n e).length ≤ 5 ^ n := by
  have h1 := keyM_absK n e h
  have hs : SrtK (keyM n e) := by rw [keyM_T n e h]; exact gatherK_srt _
  refine Nat.le_trans ?_ h1
  have key : ∀ L : List (Int × Int), (∀ x ∈ L, x.2 ≠ 0) → L.length ≤ absK L := fun L => by
    induction L with
    | nil => intro _; exact Nat.le_refl _
    | cons x L ih =>
      intro hx
      have h2 := ih fun y hy => hx y (List.mem_cons_of_mem _ hy)
      have h3 := hx x (by simp)
      have e : absK (x :: L) = x.2.natAbs + absK L := by simp [absK]
      rw [e, List.length_cons]
      omega
  exact key _ hs.2
end Go.Proofs.Ytgbojgmmingfdaa

/- KeyPoly of the reference: the walk. -/
namespace Go.Proofs.Ytgbojgmmingfdaa
open Go.RowKit

theorem keyL_padL (e : List Int) : keyL (padL e 7) = keyL e := by rw [keyL_low, keyL_low]; simp only [lowN, nth_padL]
def lnV : Value → Nat
  | .slice _ n _ => n
  | _ => 0
def natL (up : List Nat) : List Int := up.map fun j : Nat => (j : Int)
/-- What holds in the sorting loop. -/
structure SrtS (w wr : World) (av uv : Value) (a : List Int) (up : List Nat) : Prop where
  a : OI wr w.heap.size av a
  u : OI wr w.heap.size uv (natL up)
  ne : ∀ g, av.ownBlock = some g → uv.ownBlock ≠ some g
  bel : Below w.heap.size w wr
theorem SrtS.below {w w1 w2 : World} {av uv : Value} {a : List Int} {up : List Nat} (h : SrtS w w1 av uv a up) (b : Below w1.heap.size w1 w2) : SrtS w w2 av uv a up := ⟨h.a.below b, h.u.below b, h.ne, h.bel.trans (b.mono h.bel.size)⟩
theorem SrtS.swap {w w1 w2 : World} {av av' uv : Value} {a a' : List Int} {up : List Nat} (h : SrtS w w1 av uv a up) (b : Below w1.heap.size w1 w2) (ho : OI w2 w1.heap.size av' a') : SrtS w w2 av' uv a' up :=
  ⟨ho.mono h.bel.size, h.u.below b, fun g e e2 => by have h1 := (ho.lt g e).1; have h2 := (h.u.lt g e2).2; omega, h.bel.trans (b.mono h.bel.size)⟩
theorem SrtS.app {w w1 w2 : World} {av uv uv' : Value} {a : List Int} {up up' : List Nat} (h : SrtS w w1 av uv a up) (hg : w1.grownBy w2 uv.ownBlock) (ho : OI w2 w.heap.size uv' (natL up')) (hk : uv'.ownBlock = uv.ownBlock ∨ uv'.ownBlock = some (w1.heap.size + 1)) : SrtS w w2 av uv' a up' := by
  refine ⟨h.a.kept hg ?_, ho, fun g e e2 => ?_, h.bel.grown hg h.bel.size fun k hk => (h.u.lt k hk).1⟩
  · rcases ha : av.ownBlock with _ | g
    · exact .inl rfl
    · exact .inr fun e => h.ne g ha e.symm
  · rcases hk with hk | hk
    · rw [hk] at e2; exact h.ne g e e2
    · rw [hk] at e2
      have h3 := (h.a.lt g e).2
      injection e2 with e2
      omega
set_option maxRecDepth 100000 in
set_option maxHeartbeats 4000000 in
theorem sKeyPoly_any {A : Option Addr} {m : Nat} {l : List Int} {w : World} (c : Nat) (hx : RI w A m l) (hm : m ≤ 1000000000) :
    Calls Try.prog 44 #[.slice A m c] w (MakesTm w (keyR l) (keyB l)) := by
  have HLn : Hid (l.length = m) := hx.1
  have HX := Lib.hid hx
  have HNIL : Hid (keyOk l = false → ∀ wr, Below w.heap.size w wr → MakesTm w (keyR l) (keyB l) (.returned (.tuple #[.slice none 0 0, .bool false])) wr) := fun h wr hb => by
    rw [(keyR_no h).1, (keyR_no h).2]
    exact ⟨_, _, rfl, OF.nil_ _ _ _ _ _, hb⟩
  clear hx
  go_enter Try.func44, Try.ntmps44
  rcases h1 : inB (m : Int) 1 5 with _ | _
  · have hN := Lib.hid (HNIL.out (by
      have h2 := inB_no.1 h1
      by_cases h3 : 1 ≤ m
      · rw [keyOk, HLn.out, decide_eq_false (show ¬ m ≤ 5 by omega)]; simp
      · rw [keyOk, HLn.out, decide_eq_false h3]; rfl))
    have HI : Hid (∀ W, Calls Try.prog 59 #[.int .i64 (m : Int), .int .i64 1, .int .i64 5] W (Gives W (.bool false))) := fun W => by have h := l1In_any (w := W) (m : Int) 1 5; rw [h1] at h; exact h
    clear h1
    go_wp2_with (first | (go_at_call 59; refine (HI.out _).mono ?_; rintro e w2 ⟨rfl, q2⟩) | fail)
    go_ret2
    exact hN.out _ q2.below
  have HI : Hid (∀ W, Calls Try.prog 59 #[.int .i64 (m : Int), .int .i64 1, .int .i64 5] W (Gives W (.bool true))) := fun W => by have h := l1In_any (w := W) (m : Int) 1 5; rw [h1] at h; exact h
  have hm15 := inB_iff.1 h1
  have HM : Hid (1 ≤ m ∧ m ≤ 5) := ⟨by omega, by omega⟩
  clear h1 hm15
  go_wp2_with (first | (go_at_call 59; refine (HI.out _).mono ?_; rintro e w2 ⟨rfl, q2, rfl⟩) | fail)
  clear HI
  go_loopw [4] (fun i wr => ∃ k : Nat, k ≤ m ∧ i = .int .i64 (k : Int) ∧ Quiet w wr ∧ Hid (∀ j, j < k → 0 ≤ nth l j ∧ nth l j ≤ 4)) (fun i _ => m - (intOf i).toNat)
  case atStart => exact ⟨0, Nat.zero_le _, rfl, (by first | exact ⟨_, rfl⟩ | exact ⟨_, (World.drewN_drewN _ _ _).symm⟩ | exact Quiet.refl _ | (simp only [World.drewN_drewN]; exact ⟨_, rfl⟩)), fun j hj => by omega⟩
  case round =>
    obtain ⟨k, hk, rfl, ⟨q, rfl⟩, HT⟩ := hrel
    by_cases hlt : k < m
    · obtain ⟨ad, rfl, z0⟩ := HX.out.cell hlt
      obtain ⟨u, hu⟩ : ∃ u, u = nth l k := ⟨_, rfl⟩
      rw [← hu] at z0
      have HU := Lib.hid hu
      clear hu
      have HIU : Hid (∀ b, inB u 0 4 = b → ∀ W, Calls Try.prog 59 #[.int .i64 u, .int .i64 0, .int .i64 4] W (Gives W (.bool b))) := fun b hb W => by have h := l1In_any (w := W) u 0 4; rw [hb] at h; exact h
      rcases hu4 : inB u 0 4 with _ | _
      · have hno : keyOk l = false := by
          rw [keyOk, allB_no (k := k) (by rw [HLn.out]; exact hlt) (by rw [← HU.out, hu4])]; simp
        have hN := Lib.hid (HNIL.out hno)
        have H4 := Lib.hid hu4
        clear hu4 hno
        go_wp2_with (first | (go_at_call 59; refine (HIU.out _ H4.out _).mono ?_; rintro e w2 ⟨rfl, q2, rfl⟩) | fail)
        go_ret2
        exact hN.out _ (below_drewN (Below.refl _ _) _)
      · have H4 := Lib.hid hu4
        have HU4 := Lib.hid (inB_iff.1 hu4)
        clear hu4
        go_wp2_with (first | (go_at_call 59; refine (HIU.out _ H4.out _).mono ?_; rintro e w2 ⟨rfl, q2, rfl⟩) | fail)
        go_roundw
        case rel => exact ⟨k + 1, by omega, by go_num, (by first | exact ⟨_, rfl⟩ | exact ⟨_, (World.drewN_drewN _ _ _).symm⟩ | exact Quiet.refl _ | (simp only [World.drewN_drewN]; exact ⟨_, rfl⟩)), fun j hj => by
          by_cases h : j = k
          · subst h; rw [← HU.out]; exact HU4.out
          · exact HT.out j (by omega)⟩
        case measure => simp [intOf]; omega
    · have hall : Ok5 l := ⟨by rw [HLn.out]; exact HM.out.2, fun j => by
        by_cases h : j < m
        · exact HT.out j (by omega)
        · rw [nth_ge (by rw [HLn.out]; omega)]; omega⟩
      have hyes : keyOk l = true := by
        have h3 := HM.out
        rw [keyOk, HLn.out, decide_eq_true h3.1, decide_eq_true h3.2, allB_yes fun j _ => by have := hall.2 j; simp [inB]; omega]; rfl
      have HYES := Lib.hid (keyR_yes hyes)
      have HOK := Lib.hid hall
      have HLI : Hid (∀ q, Calls Try.prog 117 #[.slice A m c] (w.drewN q) (Makes (w.drewN q) l)) := fun q => l1Ints_any c (HX.out.drewN q) (by omega)
      clear hall hyes
      go_wp2_with (first | (go_at_call 117; refine (HLI.out _).mono ?_; rintro e w2 ⟨A2, n2, c2, rfl, o2, r2, ⟨cp2, le2⟩, b2⟩) | fail)
      obtain rfl : n2 = m := r2.1.symm.trans HLn.out
      have HB2 : Hid (Below w.heap.size w w2) := by
        have h0 : Below w.heap.size w (w.drewN q) := below_drewN (Below.refl _ _) _
        exact h0.trans (b2.mono h0.size)
      have HS2 : Hid (SrtS w (w2.alloc (.cells #[] 3)) (.slice A2 n2 c2) (.slice (some ⟨w2.heap.size, 0, none⟩) 0 0) l []) := by
        have b : Below w2.heap.size w2 (w2.alloc (.cells #[] 3)) := (Below.refl _ _).alloc (Nat.le_refl _) _
        refine ⟨?_, OI.lit w2 w.heap.size [] 0 rfl HB2.out.size (by simp), fun g e e2 => ?_, HB2.out.trans (b.mono HB2.out.size)⟩
        · have h := o2.below b
          exact h.mono (by simp)
        · have h1 := (o2.lt g e).2
          simp [Value.ownBlock] at e2
          omega
      clear o2 r2 b2 cp2 le2
      go_loopw [5, 6, 7] (fun av uv kv wr => ∃ (a' : List Int) (up : List Nat) (B D : Option Addr) (bd dn dd k : Nat), av = .slice B n2 bd ∧ uv = .slice D dn dd ∧ kv = .int .i64 (k : Int) ∧ k ≤ n2 ∧ up.length = dn ∧ Hid (SrtS w wr av uv a' up ∧ Ok5 a' ∧ a'.length = n2 ∧ up.length + invL a' = invL l ∧ keyM 10 l = opsK up (keyM 10 a') ∧ (∀ i, i < k → ¬ nth a' i < nth a' (i + 1)) ∧ (∀ t, t ≤ up.length → ∃ e', Ok5 e' ∧ invL e' + t = invL l ∧ opsK (up.drop t) (keyM 10 a') = keyM 10 e') ∧ (∀ x ∈ up, x ≤ 5))) (fun _ uv kv _ => (11 - lnV uv) * 10 + (9 - (intOf kv).toNat))
      case atStart => exact ⟨l, [], _, _, _, _, _, 0, rfl, rfl, rfl, Nat.zero_le _, rfl, HS2.out, HOK.out, HLn.out, by simp, rfl, fun i hi => by omega, fun t ht => ⟨l, HOK.out, by simp at ht; omega, by simp [opsK]⟩, by simp⟩
      case round =>
        obtain ⟨a', up, B, D, bd, dn, dd, k, rfl, rfl, rfl, hk, hup, HY⟩ := hrel
        have hw1 : IntKind.i64.wrap ((k : Int) + 1) = (k : Int) + 1 := IntWalk.i64_in _ (by have := HM.out; omega)
        by_cases hlt : k + 1 < n2
        · have hltb : decide ((k : Int) + 1 < (n2 : Int)) = true := decide_eq_true (by omega)
          obtain ⟨ga, rfl⟩ := HY.out.1.a.some2 (by omega)
          obtain ⟨x, hx⟩ : ∃ x, x = nth a' k := ⟨_, rfl⟩
          obtain ⟨y, hy⟩ : ∃ x, x = nth a' (k + 1) := ⟨_, rfl⟩
          have z0 : wr.cell? ⟨ga, k, none⟩ = some (.int .i64 x) := by rw [hx]; exact HY.out.1.a.cellAt (by omega)
          have z1 : wr.cell? ⟨ga, k + 1, none⟩ = some (.int .i64 y) := by rw [hy]; exact HY.out.1.a.cellAt (by omega)
          have hk0 : (k : Int) < (n2 : Int) := by omega
          have hk1 : (k : Int) + 1 < (n2 : Int) := by omega
          have hk2 : k < n2 := by omega
          have HXY : Hid (x = nth a' k ∧ y = nth a' (k + 1)) := ⟨hx, hy⟩
          clear hx hy
          rcases hxy : decide (x < y) with _ | _
          · have HNA := Lib.hid (of_decide_eq_false hxy)
            go_wp2_with fail
            go_region
            go_wp2_with fail
            go_roundw
            case rel => exact ⟨a', up, _, _, _, _, _, k + 1, rfl, rfl, by go_num, by omega, hup, HY.out.1.below ((Below.refl _ _).drew), HY.out.2.1, HY.out.2.2.1, HY.out.2.2.2.1, HY.out.2.2.2.2.1, fun i hi => by
              by_cases h : i = k
              · subst h; rw [← HXY.out.1, ← HXY.out.2]; have := HNA.out; omega
              · have := HY.out.2.2.2.2.2.1 i (by omega); omega, HY.out.2.2.2.2.2.2⟩
            case measure => simp [intOf, lnV]; have := HM.out; omega
          · have HNA := Lib.hid (of_decide_eq_true hxy)
            have hstep : invL (swA k a') + 1 = invL a' := swA_inv k a' (by rw [HY.out.2.2.1]; exact hlt) (by rw [← HXY.out.1, ← HXY.out.2]; exact HNA.out)
            have hops := ops_step HY.out.2.1 (by rw [HY.out.2.2.1]; exact hlt) (by rw [← HXY.out.1, ← HXY.out.2]; exact HNA.out) HY.out.2.2.2.2.2.1 HY.out.2.2.2.2.1
            have HST := Lib.hid hstep
            have HOP := Lib.hid hops
            have hi10 : up.length ≤ 10 := by have h1 := inv_five HOK.out.1; have h2 := HY.out.2.2.2.1; omega
            have HSW : Hid (∀ W, Below wr.heap.size wr W → Calls Try.prog 118 #[.slice (some ⟨ga, 0, none⟩) n2 bd, .int .i64 (k : Int), .int .i64 ((k : Int) + 1)] W (Makes W (swA k a'))) := fun W bW => by
              have h := l1Swap_any (w := W) bd k (k + 1) (HY.out.1.a.below bW).ri (by have := HM.out; omega) (by omega) (by omega) (by omega)
              rw [swapL_swA k a' (by rw [HY.out.2.2.1]; exact hlt)] at h
              exact h
            clear hstep hops
            go_wp2_with fail
            go_region
            go_wp2_with (first
              | (go_at_call 118; refine (HSW.out _ ((Below.refl _ _).drew)).mono ?_; rintro e w4 ⟨A4, n4, c4, rfl, o4, r4, -, b4⟩; have S4 : Hid (SrtS w w4 (.slice A4 n4 c4) (.slice D dn dd) (swA k a') up) := (HY.out.1.below ((Below.refl _ _).drew)).swap b4 o4)
              | (at_builtin; refine wpApp1 rfl _ _ rfl w.heap.size (.slice D dn dd) (natL up) (k : Int) rfl (by exact S4.out.u) rfl (by rw [natL, List.length_map]; omega) (by exact S4.out.bel.size) ?_; intro v' w5 o5 g5 k5)
              | fail)
            have hnat : natL up ++ [(k : Int)] = natL (up ++ [k]) := by simp [natL]
            rw [hnat] at o5
            have S5 := S4.out.app g5 o5 k5
            obtain ⟨D5, dn5, dd5, rfl, r5, -, -⟩ := o5.form
            have hn4 : n4 = n2 := by rw [← r4.1, (swA_perm k a').length_eq]; exact HY.out.2.2.1
            subst hn4
            have hd5 : dn5 = up.length + 1 := by rw [← r5.1, natL, List.length_map, List.length_append]; rfl
            refine ⟨⟨swA k a', up ++ [k], _, _, _, _, _, 0, rfl, rfl, rfl, Nat.zero_le _, by rw [hd5, List.length_append]; rfl, S5, HY.out.2.1.swA k, by rw [swA_len]; exact HY.out.2.2.1, ?_, HOP.out, fun i hi => by omega, fun t ht => ?_, fun x hx => ?_⟩, ?_⟩
            · rw [List.length_append, List.length_singleton]
              have h1 := HST.out
              have h2 := HY.out.2.2.2.1
              omega
            · rw [List.length_append, List.length_singleton] at ht
              by_cases h : t ≤ up.length
              · obtain ⟨e', q1, q2, q3⟩ := HY.out.2.2.2.2.2.2.1 t h
                refine ⟨e', q1, q2, ?_⟩
                have hd : (up ++ [k]).drop t = up.drop t ++ [k] := List.drop_append_of_le_length h
                have hs := ops_step (e := a') (up := []) HY.out.2.1 (by rw [HY.out.2.2.1]; exact hlt) (by rw [← HXY.out.1, ← HXY.out.2]; exact HNA.out) (fun i hi => by have := HY.out.2.2.2.2.2.1 i hi; omega) rfl
                have hs2 : keyM 10 a' = demK k (keyM 10 (swA k a')) := by rw [hs]; rfl
                rw [hd, opsK_snoc, ← hs2]
                exact q3
              · have ht2 : t = up.length + 1 := by omega
                have hd : (up ++ [k]).drop t = [] := List.drop_of_length_le (by rw [List.length_append, List.length_singleton]; omega)
                refine ⟨swA k a', HY.out.2.1.swA k, ?_, by rw [hd]; rfl⟩
                have h1 := HST.out
                have h2 := HY.out.2.2.2.1
                omega
            · rcases List.mem_append.1 hx with hx | hx
              · exact HY.out.2.2.2.2.2.2.2 x hx
              · have := HM.out
                rw [List.mem_singleton] at hx
                omega
            · simp only [lnV, intOf]
              omega
        · obtain ⟨wo, rfl⟩ : ∃ wo : World, wo = wr := ⟨_, rfl⟩
          have hltb : decide ((k : Int) + 1 < (n2 : Int)) = false := decide_eq_false (by omega)
          have hmono : keyM 10 a' = monoK a' := keyM_none 10 (firstAsc_none fun i hi => by have h1 := HY.out.2.2.1; have := HY.out.2.2.2.2.2.1 i (by omega); omega)
          have HMO := Lib.hid hmono
          have HKY : Hid (∀ W, Below wo.heap.size wo W → Calls Try.prog 119 #[.slice B n2 bd] W (Gives W (.int .i64 (keyL a')))) := fun W bW => l2KeyS_any bd (HY.out.1.a.below bW).ri (by have := HM.out; omega) fun j _ => by have := HY.out.2.1.2 j; omega
          clear hmono
          go_wp2_with (first | (go_at_call 119; refine (HKY.out _ (Below.refl _ _)).mono ?_; rintro e w4 ⟨rfl, q4, rfl⟩) | fail)
          have HUP : Hid (OI wo w.heap.size (.slice D dn dd) (natL up)) := HY.out.1.u
          have HBW : Hid (Below w.heap.size w wo) := HY.out.1.bel
          obtain ⟨K, hK⟩ : ∃ K, K = keyL a' := ⟨_, rfl⟩
          have HKE := Lib.hid hK
          have hdn10 : dn ≤ 10 := by have h1 := inv_five HOK.out.1; have h2 := HY.out.2.2.2.1; omega
          have HMK : Hid (monoK a' = [(K, 1)]) := by rw [hK]; show _ = _; rw [monoK, keyL_padL]
          rw [← hK]
          clear hK
          have HLIT : Hid (∀ q, OM ((wo.drewN q).alloc (.cells #[.int .i64 K, .int .i64 1] 120)) wo.heap.size (.slice (some ⟨wo.heap.size, 0, none⟩) 1 1) [(K, 1)]) := fun q => by
            have h := OM.lit1 (wo.drewN q) wo.heap.size K 1 (by simp)
            simpa using h
          have HBL : Hid (∀ q o, Below wo.heap.size wo ((wo.drewN q).alloc o)) := fun q o => (below_drewN (Below.refl _ _) q).alloc (by simp) o
          have hdn1 : IntKind.i64.wrap ((dn : Int) - 1) = (dn : Int) - 1 := IntWalk.i64_in _ (by omega)
          go_wp2_with fail
          go_loopw [8, 9] (fun fv iv wr2 => ∃ (g nf cf t : Nat) (z : Int), fv = .slice (some ⟨g, 0, none⟩) nf cf ∧ iv = .int .i64 z ∧ z = (t : Int) - 1 ∧ t ≤ dn ∧ Hid (OM wr2 wo.heap.size (.slice (some ⟨g, 0, none⟩) nf cf) (opsK (up.drop t) (keyM 10 a')) ∧ Below wo.heap.size wo wr2)) (fun _ iv _ => (intOf iv + 1).toNat)
          case atStart => exact ⟨_, _, _, dn, (dn : Int) - 1, rfl, by rw [IntWalk.wrap64_in _ (by omega)], rfl, Nat.le_refl _, by
            rw [← hup, List.drop_length, HMO.out, HMK.out]
            exact HLIT.out _, HBL.out _ _⟩
          case round =>
            obtain ⟨g, nf, cf, t, z, rfl, rfl, hz, ht, HF⟩ := hrel
            cases t with
            | zero =>
              obtain rfl : z = -1 := by omega
              have HKL : Hid (keyM 10 l = opsK (up.drop 0) (keyM 10 a')) := HY.out.2.2.2.2.1
              have HSH : Hid (Calls Try.prog 60 #[.slice (some ⟨g, 0, none⟩) nf cf] wr (MakesTm wr (shutT (keyM 10 l)) (shutB (keyM 10 l)))) := by
                rw [HKL.out]
                have hgd : ∀ x ∈ opsK (up.drop 0) (keyM 10 a'), 0 ≤ x.1 ∧ x.1 ≤ 9223372036854775807 := fun x hx => by
                  rw [← HKL.out] at hx
                  have := keyM_gd HOK.out x hx
                  omega
                refine l2Shut_any HF.out.1 ?_ hgd
                rw [← HF.out.1.len, ← HKL.out]
                have h1 := keyM_lenK 10 l HOK.out
                have h2 : (5 : Nat) ^ 10 = 9765625 := by decide
                omega
              have HYE : Hid (keyR l = shutT (keyM 10 l) ∧ keyB l = shutB (keyM 10 l)) := HYES.out
              clear hz ht
              go_wp2_with (first | (go_at_call 60; refine HSH.out.mono ?_; rintro e w6 ⟨v6, cs6, rfl, o6, b6⟩) | fail)
              go_ret2
              rw [HYE.out.1, HYE.out.2]
              have hbw : Below w.heap.size w wr := HBW.out.trans (HF.out.2.mono HBW.out.size)
              exact ⟨v6, cs6, rfl, OF.mono o6 hbw.size hbw.size, hbw.trans (b6.mono hbw.size)⟩
            | succ t =>
              obtain rfl : z = (t : Int) := by omega
              have htu : t < up.length := by rw [hup]; omega
              obtain ⟨gd, rfl⟩ := HUP.out.some2 (by omega)
              have c0 := (OI.below HUP.out HF.out.2).cellAt (j := t) (by omega)
              obtain ⟨m, hm⟩ : ∃ m : Nat, m = up[t] := ⟨_, rfl⟩
              have hnm : nth (natL up) t = (m : Int) := by
                rw [natL, nth_lt (by rw [List.length_map]; exact htu), List.getElem_map, hm]
              rw [hnm] at c0
              have hm5 : m ≤ 5 := by rw [hm]; exact HY.out.2.2.2.2.2.2.2 _ (List.getElem_mem htu)
              have HDR : Hid (opsK (up.drop t) (keyM 10 a') = demK m (opsK (up.drop (t + 1)) (keyM 10 a'))) := by
                show _ = _
                rw [List.drop_eq_getElem_cons htu, ← hm]; rfl
              have HDM : Hid (Calls Try.prog 120 #[.slice (some ⟨g, 0, none⟩) nf cf, .int .i64 (m : Int)] wr (MakesM wr (opsK (up.drop t) (keyM 10 a')))) := by
                rw [HDR.out]
                obtain ⟨e', q1, q2, q3⟩ := HY.out.2.2.2.2.2.2.1 (t + 1) (by omega)
                have hi9 : invL e' ≤ 9 := by have := inv_five HOK.out.1; omega
                have hf9 : keyM 10 e' = keyM 9 e' := keyM_fuel 10 9 e' q1 (by omega) hi9
                have h59 : (5 : Nat) ^ 9 = 1953125 := by decide
                have ha := keyM_absK 9 e' q1
                have hl := keyM_lenK 9 e' q1
                refine l2Demazure_any m hm5 HF.out.1 (fun x hx => ?_) ?_ ?_
                · rw [q3] at hx; exact keyM_gd q1 x hx
                · rw [q3, hf9]; omega
                · rw [q3, hf9]; omega
              have htn : (t : Int) < (dn : Int) := by omega
              have htn2 : t < dn := by omega
              have hw1 : IntKind.i64.wrap ((t : Int) - 1) = (t : Int) - 1 := IntWalk.i64_in _ (by omega)
              clear hm hnm hz
              go_wp2_with (first | (go_at_call 120; refine HDM.out.mono ?_; rintro e w6 ⟨g6, n6, c6, rfl, o6, b6⟩) | fail)
              have F6 : Hid (OM w6 wo.heap.size (.slice (some ⟨g6, 0, none⟩) n6 c6) (opsK (up.drop t) (keyM 10 a')) ∧ Below wo.heap.size wo w6) := ⟨o6.mono HF.out.2.size, HF.out.2.trans (b6.mono HF.out.2.size)⟩
              clear o6 b6
              go_roundw
              case rel => exact ⟨g6, n6, c6, t, (t : Int) - 1, rfl, rfl, rfl, by omega, F6.out⟩
              case measure => first | (simp [intOf]; done) | (simp [intOf]; omega)
end Go.Proofs.Ytgbojgmmingfdaa
