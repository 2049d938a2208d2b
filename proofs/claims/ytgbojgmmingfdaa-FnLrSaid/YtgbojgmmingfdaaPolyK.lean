/- Keys of seven exponents, and what a polynomial's map holds. -/
import Derived.Test.YtgbojgmmingfdaaPoly
namespace Go.Proofs.Ytgbojgmmingfdaa
open Go.RowKit Go.Maps Go.MapKept Go.WideMaps

theorem keyLits_int {P : Program} {e : TypeId} (he : P.underlying e = some (.int .i64)) {m : Nat} {v : Value} {ls : List Lit} (h : P.keyLits (m + 1) e [v] = some ls) : ∃ a, v = .int .i64 a ∧ (Lit.int .i64 a).wf = true := by
  unfold Program.keyLits at h
  rw [he] at h
  cases v <;> simp at h
  obtain ⟨⟨h1, h2⟩, -⟩ := h
  exact ⟨_, by rw [h1], h2⟩
theorem arr_inv {P : Program} {k e : TypeId} (A : ArrKey P k e 7) (he : P.underlying e = some (.int .i64)) (hrow : k < P.types.size) {v : Value} {l : Lit} (h : keyOf P k v = some l) : ∃ e, Ex7 e ∧ v = kv e := by
  obtain ⟨m0, hm0⟩ : ∃ m, P.types.size = m + 1 := Nat.exists_eq_succ_of_ne_zero (Nat.pos_iff_ne_zero.1 (Nat.lt_of_le_of_lt (Nat.zero_le _) hrow))
  unfold keyOf at h
  simp only [A.hu] at h
  split at h
  case isFalse => cases h
  rename_i hf0
  rw [Bool.and_eq_true] at hf0
  have hf := hf0.2
  clear hf0
  unfold Value.formed at hf
  rw [A.hu] at hf
  cases v <;> simp at hf
  rename_i xs
  rw [A.size] at hf
  obtain ⟨l, rfl⟩ : ∃ l : List Value, xs = l.toArray := ⟨xs.toList, by simp⟩
  simp at hf
  rcases l with _ | ⟨a, _ | ⟨b, _ | ⟨c, _ | ⟨d, _ | ⟨f, _ | ⟨g, _ | ⟨i, _ | ⟨j, r⟩⟩⟩⟩⟩⟩⟩⟩
  all_goals first | (exfalso; simp only [List.length_cons, List.length_nil] at hf; omega) | skip
  unfold Program.keyLits at h
  simp only [A.hu, Value.cells] at h
  rw [if_pos (by rw [A.size]; simp), hm0] at h
  simp [List.range_succ, A.one, Option.bind_eq_some_iff] at h
  obtain ⟨_, h1, _, ⟨_, h2, _, ⟨_, h3, _, ⟨_, h4, _, ⟨_, h5, _, ⟨_, h6, _, ⟨_, h7, -⟩, -⟩, -⟩, -⟩, -⟩, -⟩, -⟩ := h
  obtain ⟨a, rfl, w1⟩ := keyLits_int he h1
  obtain ⟨b, rfl, w2⟩ := keyLits_int he h2
  obtain ⟨c, rfl, w3⟩ := keyLits_int he h3
  obtain ⟨d, rfl, w4⟩ := keyLits_int he h4
  obtain ⟨f, rfl, w5⟩ := keyLits_int he h5
  obtain ⟨g, rfl, w6⟩ := keyLits_int he h6
  obtain ⟨i, rfl, w7⟩ := keyLits_int he h7
  refine ⟨[a, b, c, d, f, g, i], ⟨rfl, ?_⟩, rfl⟩
  simp only [List.mem_cons, List.not_mem_nil, or_false, forall_eq_or_imp, forall_eq]
  exact ⟨w1, w2, w3, w4, w5, w6, w7⟩
theorem kv_inv {v : Value} {l : Lit} (h : keyOf Try.prog 76 v = some l) : ∃ e, Ex7 e ∧ v = kv e ∧ l = kl e :=
  match arr_inv arrK Try.underlying3 rowK h with
  | ⟨e, he, hv⟩ => ⟨e, he, hv, Option.some.inj (h.symm.trans ((congrArg _ hv).trans (keyOf_kv he)))⟩
end Go.Proofs.Ytgbojgmmingfdaa

/- A polynomial's map under a range: what has been seen, and that at the end it is all of it, in some order. -/
namespace Go.Proofs.Ytgbojgmmingfdaa
open Go.RowKit Go.Maps Go.MapKept Go.WideMaps

/-- The terms of a sorted polynomial are at their keys, and no term is nought. -/
def GoodP (acc : List (List Int × Int)) : Prop := Srt acc ∧ ∀ x ∈ acc, Ex7 x.1 ∧ x.2 ≠ 0
theorem cf_mem : ∀ {acc : List (List Int × Int)}, Srt acc → ∀ {x : List Int × Int}, x ∈ acc → cf acc x.1 = x.2
  | [], _, x, hx => by simp at hx
  | y :: r, h, x, hx => by
    obtain ⟨hr, hy⟩ := srt_cons h
    rw [cf]
    rcases List.mem_cons.1 hx with rfl | hx
    · rw [if_pos rfl]
    · rw [if_neg (lex_ne (hy x hx)), cf_mem hr hx]
theorem cf_key : ∀ {acc : List (List Int × Int)} {e : List Int}, cf acc e ≠ 0 → (e, cf acc e) ∈ acc
  | [], e, h => absurd rfl h
  | y :: r, e, h => by
    rw [cf] at h ⊢
    by_cases he : y.1 = e
    · rw [if_pos he, ← he]; exact List.mem_cons_self
    · rw [if_neg he] at h ⊢
      exact List.mem_cons_of_mem _ (cf_key h)
theorem srt_nodup : ∀ {acc : List (List Int × Int)}, Srt acc → (acc.map Prod.fst).Nodup
  | [], _ => List.nodup_nil
  | y :: r, h => by
    obtain ⟨hr, hy⟩ := srt_cons h
    rw [List.map_cons, List.nodup_cons]
    refine ⟨fun hm => ?_, srt_nodup hr⟩
    obtain ⟨z, hz, e⟩ := List.mem_map.1 hm
    exact lex_ne (hy z hz) e.symm
theorem dlit_inj {H : Type} {a b : Int} (h : (DataW.lit (.int .i64 a) : DataW H) = .lit (.int .i64 b)) : a = b := by
  injection h with h
  injection h
theorem met_other {L : List (List Int × Int)} {e e' : List Int} {c : Int} (h : e' ≠ e) : decide (e' ∈ (L ++ [(e, c)]).map Prod.fst) = decide (e' ∈ L.map Prod.fst) := by
  apply decide_eq_decide.2
  simp [h]
/-- What has been met of a polynomial. -/
def Met (acc L : List (List Int × Int)) : Prop := (∀ x ∈ L, Ex7 x.1 ∧ x ∈ acc) ∧ (L.map Prod.fst).Nodup
theorem Met.all {acc L : List (List Int × Int)} (h : Met acc L) (hg : GoodP acc) (hall : ∀ e, Ex7 e → cf acc e ≠ 0 → e ∈ L.map Prod.fst) : L.Perm acc := by
  have n1 : L.Nodup := List.Pairwise.of_map Prod.fst (fun a b (hab : a.1 ≠ b.1) e => hab (by rw [e])) h.2
  have n2 : acc.Nodup := List.Pairwise.of_map Prod.fst (fun a b (hab : a.1 ≠ b.1) e => hab (by rw [e])) (srt_nodup hg.1)
  refine (List.perm_ext_iff_of_nodup n1 n2).2 fun x => ⟨fun hx => (h.1 x hx).2, fun hx => ?_⟩
  obtain ⟨y, hy, e⟩ := List.mem_map.1 (hall x.1 (hg.2 x hx).1 (by rw [cf_mem hg.1 hx]; exact (hg.2 x hx).2))
  have : y = x := by
    have h1 := cf_mem hg.1 (h.1 y hy).2
    rw [e, cf_mem hg.1 hx] at h1
    exact Prod.ext e h1.symm
  rw [← this]; exact hy
/-- A range over a polynomial's map, with what it has met. -/
def PR (H : Type) (w : World) (b r n : Nat) (acc L : List (List Int × Int)) (cnt : Nat) : Prop :=
  ∃ (D : DataW H) (left : Lit → Bool), w.ranges Try.prog 76 (plainElem Try.prog 3) b r n D left cnt ∧ Rep D acc ∧ Met acc L ∧ (∀ kl, left kl = true → Maps.has D kl = true) ∧
    ∀ e, Ex7 e → left (kl e) = (decide (cf acc e ≠ 0) && !decide (e ∈ L.map Prod.fst))
theorem PR.start {H : Type} {w : World} {b r n cnt : Nat} {acc : List (List Int × Int)} {D : DataW H} (hr : w.ranges Try.prog 76 (plainElem Try.prog 3) b r n D (Maps.has D) cnt) (hp : Rep D acc) : PR H w b r n acc [] cnt :=
  ⟨D, _, hr, hp, ⟨by simp, by simp⟩, fun _ h => h, fun e he => by rw [hp.has e he]; simp⟩
theorem PR.owns {H : Type} {w : World} {b r n cnt : Nat} {acc L : List (List Int × Int)} (h : PR H w b r n acc L cnt) (hs : Srt acc) : PM H w b n acc := by
  obtain ⟨D, left, hr, hp, -⟩ := h
  exact ⟨D, hr.owns, hp, hs⟩
theorem PR.kept {H : Type} {w w' : World} {row : Option Nat} {b r n cnt : Nat} {acc L : List (List Int × Int)} (h : PR H w b r n acc L cnt) (hg : w.grownBy w' row) (hb : some b ≠ row) (hr : some r ≠ row) : PR H w' b r n acc L cnt := by
  obtain ⟨D, left, h1, h2⟩ := h
  exact ⟨D, left, h1.kept hg hb hr, h2⟩
theorem PR.done {H : Type} {w : World} {b r n cnt : Nat} {acc L : List (List Int × Int)} (h : PR H w b r n acc L cnt) (hg : GoodP acc) {left : Lit → Bool} (hl : ∀ e, Ex7 e → left (kl e) = (decide (cf acc e ≠ 0) && !decide (e ∈ L.map Prod.fst))) (h0 : ∀ kl, left kl = false) : L.Perm acc := by
  obtain ⟨-, -, -, -, hm, -⟩ := h
  refine hm.all hg fun e he hc => ?_
  have := hl e he
  rw [h0] at this
  simpa [hc] using this.symm
/-- The step of the range: all is met, or one more term comes. -/
theorem PR.next {H : Type} {w : World} {b r n cnt : Nat} {acc L : List (List Int × Int)} (h : PR H w b r n acc L cnt) (hg : GoodP acc) (ty : TypeId) :
    (cnt = 0 ∧ L.Perm acc ∧ (Instr.next (.pointer (some ⟨r, 0, none⟩)) false ty).run Try.prog w = .ok (.tuple #[.bool false]) w) ∨
    ∃ (x : List Int × Int) (w' : World) (cnt' : Nat), x ∈ acc ∧ (Instr.next (.pointer (some ⟨r, 0, none⟩)) false ty).run Try.prog w = .ok (.tuple #[.bool true, kv x.1, .int .i64 x.2]) w' ∧
      PR H w' b r n acc (L ++ [x]) cnt' ∧ cnt' < cnt ∧ w.grownBy w' (some r) ∧ w'.heap.size = w.heap.size ∧ (Instr.entry (.pointer (some ⟨r, 0, none⟩))).run Try.prog w' = .ok (.tuple #[kv x.1, .int .i64 x.2]) w' := by
  have hh := h
  obtain ⟨D, left, hr, hp, hm, hlh, hl⟩ := h
  rcases hr.next lawK ty with ⟨h0, hl0, hrun⟩ | ⟨key, v, l, y, w', cnt', hkey, hlk, hv, hat, hrun, hrg, hlt, hgr, hsz, hen⟩
  · exact .inl ⟨h0, hh.done hg hl hl0, hrun⟩
  · obtain ⟨e, he, rfl, rfl⟩ := kv_inv hkey
    obtain ⟨c, rfl, rfl, hc⟩ := plainElem_int_inv Try.underlying3 hv
    have h1 := hl e he
    rw [hlk] at h1
    have h1 := h1.symm
    rw [Bool.and_eq_true] at h1
    have h2 : cf acc e ≠ 0 := of_decide_eq_true h1.1
    have h3 : e ∉ L.map Prod.fst := by simpa using h1.2
    have hcf : c = cf acc e := dlit_inj ((hat (.lit (.int .i64 0))).symm.trans (hp.at_ e he))
    subst hcf
    have hx := cf_key h2
    refine .inr ⟨(e, cf acc e), w', cnt', hx, hrun, ⟨D, _, hrg, hp, ⟨fun z hz => ?_, ?_⟩, fun kl hk => hlh kl ?_, fun e' he' => ?_⟩, hlt, hgr, hsz, hen⟩
    · rcases List.mem_append.1 hz with hz | hz
      · exact hm.1 z hz
      · rw [List.mem_singleton.1 hz]; exact ⟨he, hx⟩
    · rw [List.map_append, List.nodup_append]
      refine ⟨hm.2, by simp, fun a ha b hb => ?_⟩
      rw [List.map_singleton, List.mem_singleton] at hb
      rw [hb]
      exact fun e1 => h3 (by have : a = e := e1; rw [← this]; exact ha)
    · simp only [Bool.and_eq_true] at hk; exact hk.1
    · show (left (kl e') && !(kl e').sameKey (kl e)) = _
      rw [hl e' he']
      by_cases hee : e' = e
      · rw [hee, WideAt.sameKey_self (lawK.key hkey)]; simp [List.map_append]
      · rw [sameKey_ne (fun e1 => hee (kl_inj he' he e1))]
        rw [met_other hee]; simp
/-- How many terms. -/
theorem entries_keyed {H : Type} {P : Program} {k : TypeId} {R : Value → Option (DataW H × List MemPlace)} {w : World} {b n : Nat} {D : DataW H} (h : w.ownsMap P k R b n D) (K : Go.Maps.Keyed P k) : ∃ es, D = .map es ∧ es.Pairwise (fun p q => p.1 ≠ q.1) ∧ ∀ p ∈ es, ∃ v, keyOf P k v = some p.1 := by
  obtain ⟨es, clock, _, F, _, rfl⟩ := h
  refine ⟨_, rfl, ((WideShapes.sorted_perm _).pairwise_iff (fun {_ _} hne => Ne.symm hne)).2 (Maps.fit_apart K F), fun p hp => ?_⟩
  obtain ⟨x, hx, rfl⟩ := List.mem_map.1 (mem_sorted.1 hp)
  obtain ⟨y, hy⟩ := F.reads x hx
  rw [WideElems.rg_of hy]
  exact ⟨_, WideElems.rd_key hy⟩
theorem PM.size {H : Type} {w : World} {b n : Nat} {acc : List (List Int × Int)} {D : DataW H} (ho : w.ownsMap Try.prog 76 (plainElem Try.prog 3) b n D) (hr : Rep D acc) (hg : GoodP acc) : Maps.size D = acc.length := by
  obtain ⟨es, rfl, hd, hk⟩ := entries_keyed ho lawK
  have hn1 : (es.map Prod.fst).Nodup := List.pairwise_map.2 hd
  have hn2 : (acc.map fun x => kl x.1).Nodup := by
    have h0 := srt_nodup hg.1
    rw [List.Nodup, List.pairwise_map] at h0 ⊢
    exact h0.imp_of_mem fun {a b} ha hb hab e => hab (kl_inj (hg.2 a ha).1 (hg.2 b hb).1 e)
  have hp : (es.map Prod.fst).Perm (acc.map fun x => kl x.1) := (List.perm_ext_iff_of_nodup hn1 hn2).2 fun l => by
    constructor
    · intro hl
      obtain ⟨p, hp, rfl⟩ := List.mem_map.1 hl
      obtain ⟨v, hv⟩ := hk p hp
      obtain ⟨e, he, rfl, e1⟩ := kv_inv hv
      have hh : Maps.has (.map es) p.1 = true := List.any_eq_true.2 ⟨p, hp, WideAt.sameKey_self (lawK.key hv)⟩
      rw [e1, hr.has e he] at hh
      exact List.mem_map.2 ⟨_, cf_key (of_decide_eq_true hh), e1.symm⟩
    · intro hl
      obtain ⟨x, hx, rfl⟩ := List.mem_map.1 hl
      have hh := hr.has x.1 (hg.2 x hx).1
      rw [cf_mem hg.1 hx, decide_eq_true (hg.2 x hx).2] at hh
      obtain ⟨p, hp, hpk⟩ := List.any_eq_true.1 hh
      exact List.mem_map.2 ⟨p, hp, WideAt.sameKey_eq hpk⟩
  have := hp.length_eq
  rw [List.length_map, List.length_map] at this
  exact this
end Go.Proofs.Ytgbojgmmingfdaa
