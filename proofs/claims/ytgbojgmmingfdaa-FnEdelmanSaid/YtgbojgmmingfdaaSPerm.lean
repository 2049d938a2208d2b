/- IsPerm of the reference. -/
import Derived.Test.YtgbojgmmingfdaaShapes
import Derived.Test.YtgbojgmmingfdaaPlain
import Derived.Test.YtgbojgmmingfdaaBegW
namespace Go.Proofs.Ytgbojgmmingfdaa
open Go.RowKit

set_option maxRecDepth 100000 in
set_option maxHeartbeats 2000000 in
theorem sIsPerm_any {A : Option Addr} {n : Nat} {l : List Int} {w : World} (c : Nat) (hx : RI w A n l) (hn : n ≤ 1000000000) (hc : n ≤ c) :
    Calls Try.prog 138 #[.slice A n c] w (Gives w (.bool (permB l))) := by
  have HL : Hid (l.length = n) := hx.1
  have HX := Lib.hid hx
  have HI : Hid (∀ b, inB (n : Int) 1 7 = b → ∀ W, Calls Try.prog 59 #[.int .i64 (n : Int), .int .i64 1, .int .i64 7] W (Gives W (.bool b))) := fun b hb W => by have h := l1In_any (w := W) (n : Int) 1 7; rw [hb] at h; exact h
  clear hx
  rcases h1 : inB (n : Int) 1 7 with _ | _
  · have HE : Hid (permB l = false) := permB_len HL.out (by exact_mod_cast h1)
    have H1 := Lib.hid h1
    clear h1
    go_enter Try.func138, Try.ntmps138
    go_wp2_with (first | (go_at_call 59; refine (HI.out _ H1.out _).mono ?_; rintro e w2 ⟨rfl, q2, rfl⟩) | fail)
    go_ret
    exact ⟨by rw [HE.out]; rfl, (by first | exact ⟨_, rfl⟩ | exact ⟨_, (World.drewN_drewN _ _ _).symm⟩ | exact Quiet.refl _ | (simp only [World.drewN_drewN]; exact ⟨_, rfl⟩))⟩
  have H1 := Lib.hid h1
  have h17 := inB_iff.1 h1
  clear h1
  go_enter Try.func138, Try.ntmps138
  go_wp2_with (first | (go_at_call 59; refine (HI.out _ H1.out _).mono ?_; rintro e w2 ⟨rfl, q2, rfl⟩) | fail)
  clear HI
  go_loopw [3] (fun i wr => ∃ k : Nat, k ≤ n ∧ i = .int .i64 (k : Int) ∧ Quiet w wr ∧ Hid (∀ j, j < k → permAt l j = true)) (fun i _ => n - (intOf i).toNat)
  case atStart => exact ⟨0, Nat.zero_le _, rfl, (by first | exact ⟨_, rfl⟩ | exact ⟨_, (World.drewN_drewN _ _ _).symm⟩ | exact Quiet.refl _ | (simp only [World.drewN_drewN]; exact ⟨_, rfl⟩)), fun j hj => by omega⟩
  case round =>
    obtain ⟨k, hk, rfl, ⟨q, rfl⟩, HT⟩ := hrel
    by_cases hlt : k < n
    · obtain ⟨ad, rfl, z0⟩ := HX.out.cell hlt
      obtain ⟨x, hxx⟩ : ∃ x, x = nth l k := ⟨_, rfl⟩
      rw [← hxx] at z0
      have HXX := Lib.hid hxx
      have HIX : Hid (∀ b, inB x 0 ((n : Int) - 1) = b → ∀ q', Calls Try.prog 59 #[.int .i64 x, .int .i64 0, .int .i64 ((n : Int) - 1)] (w.drewN q') (Gives (w.drewN q') (.bool b))) := fun b hb q' => by have h := l1In_any (w := w.drewN q') x 0 ((n : Int) - 1); rw [hb] at h; exact h
      have HHS : Hid (∀ b, hasB (l.take k) x = b → ∀ q', Calls Try.prog 142 #[.slice (some ad) k c, .int .i64 x] (w.drewN q') (Gives (w.drewN q') (.bool b))) := fun b hb q' => by
        have h := l1Has_any (w := w.drewN q') c x ((HX.out.drewN q').take hk) (by omega)
        rw [hb] at h
        exact h
      have hw1 : IntKind.i64.wrap ((n : Int) - 1) = (n : Int) - 1 := IntWalk.i64_in _ (by omega)
      have hkn : (k : Int) < (n : Int) := by omega
      have hkc : (k : Int) ≤ (c : Int) := by omega
      have hk0 : (0 : Int) ≤ (k : Int) := by omega
      have hkc2 : k ≤ c := by omega
      clear hxx
      rcases hin : inB x 0 ((n : Int) - 1) with _ | _
      · have HE : Hid (permB l = false) := by
          have e : permAt l k = false := by
            unfold permAt
            rw [← HXX.out, HL.out, hin]; rfl
          exact permB_no HL.out hlt e
        have HC1 := Lib.hid (HIX.out _ hin)
        clear hin HIX HHS
        go_wp2_with fail
        go_quiet (first | (go_at_call 59; first | (with_reducible exact qcall (HC1.out _)) | (with_reducible exact qcall_add (HC1.out _))))
        go_wp2_with fail
        go_ret
        exact ⟨by rw [HE.out]; rfl, (by first | exact ⟨_, rfl⟩ | exact ⟨_, (World.drewN_drewN _ _ _).symm⟩ | exact Quiet.refl _ | (simp only [World.drewN_drewN]; exact ⟨_, rfl⟩))⟩
      · rcases hhs : hasB (l.take k) x with _ | _
        · have HOK : Hid (permAt l k = true) := by
            show _ = _
            unfold permAt
            rw [← HXX.out, HL.out, hin, hhs]; rfl
          have HC1 := Lib.hid (HIX.out _ hin)
          have HC2 := Lib.hid (HHS.out _ hhs)
          clear hin hhs HIX HHS
          go_wp2_with fail
          go_quiet (first | (go_at_call 59; first | (with_reducible exact qcall (HC1.out _)) | (with_reducible exact qcall_add (HC1.out _))) | (go_at_call 142; first | (with_reducible exact qcall (HC2.out _)) | (with_reducible exact qcall_add (HC2.out _))))
          go_wp2_with fail
          go_roundw
          case rel => exact ⟨k + 1, by omega, by go_num, (by first | exact ⟨_, rfl⟩ | exact ⟨_, (World.drewN_drewN _ _ _).symm⟩ | exact Quiet.refl _ | (simp only [World.drewN_drewN]; exact ⟨_, rfl⟩)), fun j hj => by
            by_cases h : j = k
            · subst h; exact HOK.out
            · exact HT.out j (by omega)⟩
          case measure => simp [intOf]; omega
        · have HE : Hid (permB l = false) := by
            have e : permAt l k = false := permAt_met (by rw [← HXX.out]; exact hhs)
            exact permB_no HL.out hlt e
          have HC1 := Lib.hid (HIX.out _ hin)
          have HC2 := Lib.hid (HHS.out _ hhs)
          clear hin hhs HIX HHS
          go_wp2_with fail
          go_quiet (first | (go_at_call 59; first | (with_reducible exact qcall (HC1.out _)) | (with_reducible exact qcall_add (HC1.out _))) | (go_at_call 142; first | (with_reducible exact qcall (HC2.out _)) | (with_reducible exact qcall_add (HC2.out _))))
          go_wp2_with fail
          go_ret
          exact ⟨by rw [HE.out]; rfl, (by first | exact ⟨_, rfl⟩ | exact ⟨_, (World.drewN_drewN _ _ _).symm⟩ | exact Quiet.refl _ | (simp only [World.drewN_drewN]; exact ⟨_, rfl⟩))⟩
    · have HE : Hid (permB l = true) := by
        show _ = _
        rw [permB_all HL.out fun j hj => HT.out j (by omega)]
        exact H1.out
      go_wp2
      go_ret
      exact ⟨by rw [HE.out]; rfl, (by first | exact ⟨_, rfl⟩ | exact ⟨_, (World.drewN_drewN _ _ _).symm⟩ | exact Quiet.refl _ | (simp only [World.drewN_drewN]; exact ⟨_, rfl⟩))⟩
end Go.Proofs.Ytgbojgmmingfdaa

/- l1Words of the reference: all reduced words, from the end, as long as there are not too many. -/
namespace Go.Proofs.Ytgbojgmmingfdaa
open Go.RowKit

/-- The words L behind the list ls, or too many. -/
def Lim (ls L r : List (List Int)) : Prop := if ls.length + L.length ≤ 800 then r = ls ++ L else 800 < r.length ∧ r.length ≤ 801
theorem Lim.nil {ls : List (List Int)} (h : ls.length ≤ 800) : Lim ls [] ls := by unfold Lim; rw [if_pos (by simpa using h)]; simp
theorem Lim.len {ls L r : List (List Int)} (h : Lim ls L r) : r.length ≤ 801 := by
  unfold Lim at h
  split at h
  · rw [h, List.length_append]; omega
  · exact h.2
theorem Lim.more {ls L M r r' : List (List Int)} (h : Lim ls L r) (hr : r.length ≤ 800) (h2 : Lim r M r') : Lim ls (L ++ M) r' := by
  unfold Lim at h
  split at h
  · subst h
    unfold Lim at h2 ⊢
    rw [List.length_append] at h2 ⊢
    split at h2
    · rename_i h3
      rw [if_pos (by omega), h2, List.append_assoc]
    · rename_i h3
      rw [if_neg (by omega)]; exact h2
  · omega
theorem Lim.stop {ls L M r : List (List Int)} (h : Lim ls L r) (hr : ¬ r.length ≤ 800) : Lim ls (L ++ M) r := by
  unfold Lim at h ⊢
  split at h
  · rename_i h3
    rw [h, List.length_append] at hr
    omega
  · rename_i h3
    rw [if_neg (by rw [List.length_append]; omega)]; exact h
theorem Lim.last {ls : List (List Int)} {b : List Int} (h : ls.length ≤ 800) : Lim ls [b] (ls ++ [b]) := by
  unfold Lim
  split
  · rfl
  · rename_i h2
    rw [List.length_append, List.length_singleton]
    simp only [List.length_singleton] at h2
    omega
theorem flatMap_sameR {α γ : Type} {f g : α → List γ} : ∀ {l : List α}, (∀ a ∈ l, f a = g a) → l.flatMap f = l.flatMap g
  | [], _ => rfl
  | a :: l, h => by rw [List.flatMap_cons, List.flatMap_cons, h a (by simp), flatMap_sameR fun b hb => h b (List.mem_cons_of_mem _ hb)]
/-- The words that end with what stands behind. -/
def tailW (f : Nat) (w b : List Int) : List (List Int) := (redS f w).map (· ++ b)
def endsTo (w : List Int) (k : Nat) : List Nat := (List.range k).filter (rdB w)
theorem endsTo_yes {l : List Int} {k : Nat} (h : rdB l k = true) : endsTo l (k + 1) = endsTo l k ++ [k] := by simp [endsTo, List.range_succ, List.filter_append, h]
theorem endsTo_no {l : List Int} {k : Nat} (h : rdB l k = false) : endsTo l (k + 1) = endsTo l k := by simp [endsTo, List.range_succ, List.filter_append, h]
def someW (f : Nat) (w b : List Int) (k : Nat) : List (List Int) := (endsTo w k).flatMap fun j => tailW f (swN j w) ([(j : Int)] ++ b)
theorem tailW_some {f : Nat} {w b : List Int} (h : rdsL w ≠ []) : tailW (f + 1) w b = someW f w b (w.length - 1) := by
  unfold tailW someW
  rw [redS, if_neg h, List.map_flatMap]
  refine flatMap_sameR fun j _ => ?_
  unfold tailW
  rw [List.map_map]
  refine List.map_congr_left fun v _ => ?_
  simp
theorem tailW_none {f : Nat} {w b : List Int} (h : rdsL w = []) : tailW f w b = [b] := by
  unfold tailW
  cases f with
  | zero => rw [redS]; rfl
  | succ f => rw [redS, if_pos h]; rfl
def PostW (w : World) (b : Nat) (v : Value) (ls L : List (List Int)) : Ending → World → Prop := fun e w' =>
  ∃ A n c r cells', e = .returned (.slice A n c) ∧ OS w' b b (.slice A n c) r cells' ∧ Hid (Lim ls L r) ∧ w.grownBy w' v.ownBlock ∧ From w v (.slice A n c)
/-- A list that is read, and lies apart from the rows that are written. -/
def RK (w : World) (B : Nat) (A : Option Addr) (n : Nat) (l : List Int) : Prop := RI w A n l ∧ ((∃ c, OI w B (.slice A n c) l) ∨ ∀ ad, A = some ad → ad.block < B)
theorem RK.kept {w w' : World} {B n : Nat} {A : Option Addr} {l : List Int} {row : Option Nat} (h : RK w B A n l) (hg : w.grownBy w' row) (hrow : ∀ g, row = some g → B ≤ g ∧ ∃ cs e m, w.heap[g]? = some (.cells cs e m) ∧ e ≠ 3) : RK w' B A n l := by
  rcases h.2 with ⟨c, ho⟩ | hb
  · have h1 := OI.kept_type ho hg fun g e => (hrow g e).2
    exact ⟨h1.ri, .inl ⟨c, h1⟩⟩
  · refine ⟨⟨h.1.1, fun hn => ?_⟩, .inr hb⟩
    obtain ⟨ad, e, hc⟩ := h.1.2 hn
    refine ⟨ad, e, fun j hj => ?_⟩
    have hlt := World.block_lt_of_cell? w _ (hc j hj)
    rw [World.cell?_of_block (w := w) (hg.block _ hlt fun e2 => ?_)]
    · exact hc j hj
    · have h1 := hb ad e
      have h2 := (hrow _ e2.symm).1
      rw [block_of_add] at h2
      omega
theorem RK.below {w w' : World} {B n : Nat} {A : Option Addr} {l : List Int} (h : RK w B A n l) (b : Below w.heap.size w w') : RK w' B A n l :=
  ⟨h.1.below b, h.2.imp (fun ⟨c, ho⟩ => ⟨c, ho.below b⟩) id⟩
/-- What holds in the loop. -/
structure WdS (w wr : World) (B n m d f : Nat) (A A2 : Option Addr) (l bh : List Int) (v0 lv : Value) (ls r : List (List Int)) (cells : List Value) (k : Nat) : Prop where
  rk : RK wr B A n l
  b : OI wr B (.slice A2 m d) bh
  o : OS wr B B lv r cells
  lim : Lim ls (someW (f - 1) l bh k) r
  g : w.grownBy wr v0.ownBlock
  fr : From w v0 lv
  hap : endsTo l k = [] → r = ls ∧ ∀ u' ∈ cells, u'.ownBlock = none ∨ u'.ownBlock ≠ (Value.slice A2 m d).ownBlock
section
variable {w w1 w2 : World} {B n m d f k : Nat} {A A2 : Option Addr} {l bh : List Int} {v0 lv lv' : Value} {ls r r' : List (List Int)} {cells cells' : List Value}
theorem WdS.below (h : WdS w w1 B n m d f A A2 l bh v0 lv ls r cells k) (b : Below w1.heap.size w1 w2) : WdS w w2 B n m d f A A2 l bh v0 lv ls r cells k :=
  ⟨h.rk.below b, h.b.below b, OF.below h.o b, h.lim, grown_below h.g b, h.fr, h.hap⟩
theorem WdS.no (h : WdS w w1 B n m d f A A2 l bh v0 lv ls r cells k) (hk : rdB l k = false) : WdS w w1 B n m d f A A2 l bh v0 lv ls r cells (k + 1) :=
  ⟨h.rk, h.b, h.o, by unfold someW; rw [endsTo_no hk]; exact h.lim, h.g, h.fr, by rw [endsTo_no hk]; exact h.hap⟩
theorem someW_yes (hk : rdB l k = true) : someW f l bh (k + 1) = someW f l bh k ++ tailW f (swN k l) ([(k : Int)] ++ bh) := by
  unfold someW
  rw [endsTo_yes hk, List.flatMap_append]
  simp
theorem WdS.full (h : WdS w w1 B n m d f A A2 l bh v0 lv ls r cells k) (hk : rdB l k = true) (hr : ¬ r.length ≤ 800) : WdS w w1 B n m d f A A2 l bh v0 lv ls r cells (k + 1) :=
  ⟨h.rk, h.b, h.o, by rw [someW_yes hk]; exact h.lim.stop hr, h.g, h.fr, fun e => by rw [endsTo_yes hk] at e; simp at e⟩
theorem WdS.call (h : WdS w w1 B n m d f A A2 l bh v0 lv ls r cells k) (hk : rdB l k = true) (hr : r.length ≤ 800) (hl : Lim r (tailW (f - 1) (swN k l) ([(k : Int)] ++ bh)) r') (ho : OS w2 B B lv' r' cells') (hg : w1.grownBy w2 lv.ownBlock) (hf : From w1 lv lv') :
    WdS w w2 B n m d f A A2 l bh v0 lv' ls r' cells' (k + 1) := by
  have htr : ∀ g, lv.ownBlock = some g → B ≤ g ∧ ∃ cs e m, w1.heap[g]? = some (.cells cs e m) ∧ e ≠ 3 := fun g e => ⟨(OF.lt h.o g e).1, OF.typed' h.o (by decide) g e⟩
  refine ⟨h.rk.kept hg htr, h.b.kept_type hg fun g e => (htr g e).2, ho, by rw [someW_yes hk]; exact h.lim.more hr hl, ?_, h.fr.next h.g.size hf, fun e => by rw [endsTo_yes hk] at e; simp at e⟩
  exact grown_step h.g hg (h.fr.imp id fun h2 k hk2 => h2 k hk2)
end
set_option maxRecDepth 100000 in
set_option maxHeartbeats 4000000 in
theorem l1Words_any : ∀ (f : Nat) (w : World) (B n c m d ln lc : Nat) (A A2 A3 : Option Addr) (l bh : List Int) (ls : List (List Int)) (cells : List Value), RK w B A n l → permB l = true → n ≤ c → dnv l ≤ f → f ≤ 21 → OI w B (.slice A2 m d) bh → bh.length + f ≤ 60 →
    OS w B B (.slice A3 ln lc) ls cells → (∀ u' ∈ cells, u'.ownBlock = none ∨ u'.ownBlock ≠ (Value.slice A2 m d).ownBlock) → ls.length ≤ 800 → B ≤ w.heap.size →
    Calls Try.prog 139 #[.slice A n c, .slice A2 m d, .slice A3 ln lc] w (PostW w B (.slice A3 ln lc) ls (tailW f l bh)) := by
  intro f
  induction f using Nat.strongRecOn with
  | ind f ih =>
    intro w B n c m d ln lc A A2 A3 l bh ls cells hx hp hc hf hf21 hb hbl hl hap hls hB
    have HL : Hid (l.length = n) := hx.1.1
    have hsz := permB_size hp
    rw [HL.out] at hsz
    have HP := Lib.hid hp
    have HF := Lib.hid hf
    have IH := Lib.hid ih
    have HBL := Lib.hid hbl
    have HLS := Lib.hid hls
    have HB := Lib.hid hB
    have S0 : Hid (WdS w w B n m d f A A2 l bh (.slice A3 ln lc) (.slice A3 ln lc) ls ls cells 0) :=
      ⟨hx, hb, hl, by simpa [someW, endsTo] using Lim.nil hls, ⟨rfl, rfl, rfl, Nat.le_refl _, fun _ _ _ => rfl⟩, From.refl _ _, fun _ => ⟨rfl, hap⟩⟩
    clear hx hp hf ih hbl hls hB hb hl hap
    go_enter Try.func139, Try.ntmps139
    go_wp2_with fail
    go_loopw [2, 7, 8] (fun lv dv kv wr => ∃ (k : Nat) (D : Option Addr) (dn dd : Nat) (r : List (List Int)) (cells' : List Value), k + 1 ≤ n ∧ kv = .int .i64 (k : Int) ∧ lv = .slice D dn dd ∧ dv = .bool (decide (endsTo l k = [])) ∧ Hid (WdS w wr B n m d f A A2 l bh (.slice A3 ln lc) (.slice D dn dd) ls r cells' k)) (fun _ _ kv _ => n - (intOf kv).toNat)
    case atStart => exact ⟨0, A3, ln, lc, ls, cells, by omega, rfl, rfl, rfl, S0.out⟩
    case round =>
      clear S0
      obtain ⟨k, D, dn, dd, r, cells', hk, rfl, rfl, rfl, HY⟩ := hrel
      have hw1 : IntKind.i64.wrap ((k : Int) + 1) = (k : Int) + 1 := IntWalk.i64_in _ (by omega)
      by_cases hlt : k + 1 < n
      · have hltb : decide ((k : Int) + 1 < (n : Int)) = true := decide_eq_true (by omega)
        obtain ⟨ad, rfl, z0⟩ := HY.out.rk.1.cell (k := k) (by omega)
        obtain ⟨ad', e', z1⟩ := HY.out.rk.1.cell (k := k + 1) hlt
        obtain rfl := Option.some.inj e'
        clear e'
        have hadb : ad.add (k + 1) = ⟨ad.block, ad.off + (k + 1), none⟩ := by unfold Addr.add; rw [if_neg (by omega)]
        rw [hadb] at z1
        obtain ⟨x, hx⟩ : ∃ x, x = nth l k := ⟨_, rfl⟩
        obtain ⟨y, hy⟩ : ∃ x, x = nth l (k + 1) := ⟨_, rfl⟩
        rw [← hx] at z0
        rw [← hy] at z1
        have hrd : rdB l k = decide (y < x) := by rw [rdB, ← hx, ← hy]
        clear hx hy hadb
        have hk0 : (k : Int) < (n : Int) := by omega
        have hk1 : (k : Int) + 1 < (n : Int) := by omega
        have hk2 : (0 : Int) ≤ (k : Int) + 1 := by omega
        have hk3 : (0 : Int) ≤ (k : Int) := by omega
        have hk4 : k < n := by omega
        rcases hxy : decide (y < x) with _ | _
        · have HNO : Hid (rdB l k = false) := hrd.trans hxy
          have HEN : Hid (endsTo l (k + 1) = endsTo l k) := endsTo_no HNO.out
          clear hrd
          go_wp2_with fail
          go_region
          go_wp2_with fail
          go_roundw
          case rel => exact ⟨k + 1, _, _, _, r, cells', by omega, by go_num, rfl, by rw [HEN.out], (HY.out.below ((Below.refl _ _).drew)).no HNO.out⟩
          case measure => simp [intOf]; omega
        · have HYES : Hid (rdB l k = true) := hrd.trans hxy
          have HEN : Hid (decide (endsTo l (k + 1) = []) = false) := decide_eq_false (by rw [endsTo_yes HYES.out]; simp)
          have HDN : Hid (r.length = dn) := OS.lenS HY.out.o
          clear hrd
          go_wp2_with fail
          go_region
          obtain ⟨w3, e3⟩ : ∃ W, W = wr.drew := ⟨_, rfl⟩
          rw [← e3]
          have HY3 : Hid (WdS w w3 B n m d f (some ad) A2 l bh (.slice A3 ln lc) (.slice D dn dd) ls r cells' k) := by rw [e3]; exact HY.out.below ((Below.refl _ _).drew)
          clear e3 z0 z1 HY
          by_cases h8 : dn ≤ 800
          · have h8' : decide ((dn : Int) ≤ 800) = true := decide_eq_true (by omega)
            have hrdes : Hid (rdes l k) := ⟨by rw [HL.out]; exact hlt, by have h := HYES.out; rw [rdB, decide_eq_true_eq] at h; exact h⟩
            have HSW : Hid (Calls Try.prog 118 #[.slice (some ad) n c, .int .i64 (k : Int), .int .i64 ((k : Int) + 1)] w3 (Makes w3 (swN k l))) := by
              have h := l1Swap_any (w := w3) c k (k + 1) HY3.out.rk.1 (by omega) (by omega) (by omega) (by omega)
              rw [swapL_swN k l (by rw [HL.out]; exact hlt)] at h
              exact h
            have HBS : Hid (B ≤ w3.heap.size) := Nat.le_trans HB.out HY3.out.g.size
            have HBN : Hid (m ≤ 60) := by
              show m ≤ 60
              rw [← HY3.out.b.ri.1]
              have := HBL.out
              omega
            have HRL : Hid (r.length ≤ 800) := by show _ ≤ _; rw [HDN.out]; exact h8
            clear h8
            go_upto_region 4 with (first
              | (go_at_call 118; refine HSW.out.mono ?_; rintro e w4 ⟨A4, n4, c4, rfl, o4, r4, ⟨cp4, le4⟩, b4⟩; have HL4 : Hid (OI (w4.alloc (.cells #[.int .i64 (k : Int)] 3)) w4.heap.size (.slice (some ⟨w4.heap.size, 0, none⟩) 1 1) [(k : Int)]) := OI.lit w4 w4.heap.size [(k : Int)] 1 rfl (Nat.le_refl _) (by simp))
              | (at_builtin; refine wpAppI rfl _ _ rfl w4.heap.size (.slice (some ⟨w4.heap.size, 0, none⟩) 1 1) [(k : Int)] bh A2 m d rfl rfl HL4.out ((HY3.out.b.ri.below b4).alloc _) (by have := HBN.out; simp; omega) (by simp) ?_; intro v6 w6 o6 g6 k6; obtain ⟨A6, n6, c6, rfl, -⟩ := o6.form)
              | fail)
            have b6 : Below w4.heap.size w4 w6 := ((Below.refl _ _).alloc (Nat.le_refl _) _).grown g6 (by simp) (by simp [Value.ownBlock])
            have b36 : Below w3.heap.size w3 w6 := b4.trans (b6.mono b4.size)
            have HY6 := Lib.hid (HY3.out.below b36)
            have hd1 := dn_swN hrdes.out
            have hfd := HF.out
            have hn4 : n4 = n := by rw [← r4.1, swN_len]; exact HL.out
            have hpm : permB (swN k l) = true := permB_of ((prm_of HP.out).swN hrdes.out.1) (by rw [swN_len]; exact (permB_size HP.out).1) (by rw [swN_len]; exact (permB_size HP.out).2)
            have HREC : Hid (Calls Try.prog 139 #[.slice A4 n4 c4, .slice A6 n6 c6, .slice D dn dd] w6 (PostW w6 B (.slice D dn dd) r (tailW (f - 1) (swN k l) ([(k : Int)] ++ bh)))) := by
              have hlen : ([(k : Int)] ++ bh).length + (f - 1) ≤ 60 := by
                rw [List.length_append, List.length_singleton]
                have := HBL.out
                omega
              exact IH.out (f - 1) (by omega) w6 B n4 c4 n6 c6 dn dd A4 A6 D (swN k l) ([(k : Int)] ++ bh) r cells' ⟨r4.below b6, .inl ⟨c4, (o4.below b6).mono HBS.out⟩⟩ hpm cp4 (by omega) (by omega)
                (o6.mono (Nat.le_trans HBS.out b4.size)) hlen (OF.below HY3.out.o b36) (apart_new (H := w4.heap.size) HY3.out.o.2.1 b4.size o6) HRL.out (Nat.le_trans HBS.out b36.size)
            clear o4 r4 cp4 le4 b4 g6 k6 o6 b6 b36 hd1 hfd hn4 hpm
            refine HREC.out.mono ?_
            rintro e w7 ⟨A7, n7, c7, r7, cells7, rfl, o7, HL7, g7, f7⟩
            have HY7 := Lib.hid (HY6.out.call HYES.out HRL.out HL7.out o7 g7 f7)
            clear o7 g7 f7
            go_wp2_with fail
            go_roundw
            case rel => exact ⟨k + 1, _, _, _, r7, cells7, by omega, by go_num, rfl, by rw [HEN.out], HY7.out⟩
            case measure => simp [intOf]; omega
          · have h8' : decide ((dn : Int) ≤ 800) = false := decide_eq_false (by omega)
            have HRL : Hid (¬ r.length ≤ 800) := by show ¬ _; rw [HDN.out]; exact h8
            have HY7 := Lib.hid (HY3.out.full HYES.out HRL.out)
            clear h8
            go_wp2_with fail
            go_roundw
            case rel => exact ⟨k + 1, _, _, _, r, cells', by omega, by go_num, rfl, by rw [HEN.out], HY7.out⟩
            case measure => simp [intOf]; omega
      · have hltb : decide ((k : Int) + 1 < (n : Int)) = false := decide_eq_false (by omega)
        have hkn : k = l.length - 1 := by rw [HL.out]; omega
        have HEK : Hid (endsTo l k = rdsL l) := by show _ = _; rw [hkn]; rfl
        have HKN := Lib.hid hkn
        clear hkn
        rcases hd : decide (endsTo l k = []) with _ | _
        · have HNE : Hid (rdsL l ≠ []) := by rw [← HEK.out]; exact of_decide_eq_false hd
          have HTW : Hid (tailW f l bh = someW (f - 1) l bh k) := by
            obtain ⟨j, hj⟩ : ∃ j, j ∈ rdsL l := List.exists_mem_of_ne_nil _ HNE.out
            have h1 := dn_swN (mem_rdsL.1 hj)
            have h2 := HF.out
            obtain ⟨g, rfl⟩ : ∃ g, f = g + 1 := ⟨f - 1, by omega⟩
            show _ = _
            rw [tailW_some HNE.out, HKN.out]
            rfl
          clear hd
          go_wp2_with fail
          go_ret
          exact ⟨D, dn, dd, r, cells', rfl, HY.out.o, by show Lim _ _ _; rw [HTW.out]; exact HY.out.lim, HY.out.g, HY.out.fr⟩
        · have hnil : endsTo l k = [] := of_decide_eq_true hd
          have HTW : Hid (tailW f l bh = [bh]) := by show _ = _; exact tailW_none (by rw [← HEK.out]; exact hnil)
          have HAP := Lib.hid (HY.out.hap hnil)
          have HRL : Hid (r.length + 1 ≤ 1000000000000) := by show _ ≤ _; rw [HAP.out.1]; have := HLS.out; omega
          have HBS : Hid (B ≤ wr.heap.size) := Nat.le_trans HB.out HY.out.g.size
          clear hd hnil
          go_wp2_with (first
            | (at_builtin; refine wpAppS rfl _ _ rfl B B (.slice D dn dd) r cells' (.slice A2 m d) bh rfl rfl HY.out.o HY.out.b HAP.out.2 HRL.out HBS.out ?_; intro v7 w7 o7 g7 k7)
            | fail)
          obtain ⟨A7, n7, c7, rfl, -⟩ := OS.form o7
          go_ret
          have hbA : Below wr.heap.size wr (wr.alloc (.cells #[.slice A2 m d] 22)) := (Below.refl _ _).alloc (Nat.le_refl _) _
          refine ⟨A7, n7, c7, r ++ [bh], _, rfl, o7, ?_, ?_, ?_⟩
          · show Lim _ _ _
            rw [HTW.out, HAP.out.1]
            exact Lim.last HLS.out
          · refine grown_step (grown_below HY.out.g hbA) g7 ?_
            rcases HY.out.fr with h | h
            · exact .inl h
            · exact .inr h
          · exact HY.out.fr.next HY.out.g.size (k7.imp id fun h k hk => by rw [h] at hk; injection hk with hk; omega)
end Go.Proofs.Ytgbojgmmingfdaa
