/- What a state keeps when only what lives on is kept; regions as a whole. -/
import Derived.Test.YtlhinijgdffcdaaGreatDoorReg4
import Derived.Scope
namespace Go.Ab
open Go
set_option linter.unusedVariables false
set_option linter.unusedSimpArgs false
theorem freezeAt_get (ps : List Nat) : ∀ (es : List Ent) (n i : Nat), (freezeAt ps n es)[i]? = (es[i]?).map fun e => if ps.contains (n + i) then e.freeze else e
 | [], n, i => by simp [freezeAt]
 | e :: r, n, i => by
  cases i with
  | zero => simp [freezeAt]
  | succ i =>
   simp only [freezeAt, List.getElem?_cons_succ]
   rw [freezeAt_get ps r (n + 1) i]
   have : n + 1 + i = n + (i + 1) := by omega
   rw [this]
theorem freezeAt_nil : ∀ (es : List Ent) (n : Nat), freezeAt [] n es = es
 | [], n => rfl
 | e :: r, n => by simp only [freezeAt]; rw [freezeAt_nil r]; simp
theorem placeL_len : ∀ (live : List Nat) (vs sl : List S), (placeL live vs sl).length = sl.length
 | [], vs, sl => by cases vs <;> rfl
 | i :: r, [], sl => rfl
 | i :: r, v :: vs, sl => by simp only [placeL]; rw [placeL_len r]; simp
theorem placeL_get (f : Nat → S) : ∀ (live : List Nat) (sl : List S) (i : Nat), (placeL live (live.map f) sl).getD i .junk = sl.getD i .junk ∨ ((placeL live (live.map f) sl).getD i .junk = f i ∧ i ∈ live)
 | [], sl, i => .inl rfl
 | j :: r, sl, i => by
  simp only [List.map_cons, placeL]
  rcases placeL_get f r (sl.set j (f j)) i with h | ⟨h, hm⟩
  ·rw [getD_set] at h
   split at h
   ·rename_i hc
    right
    obtain ⟨rfl, _⟩ := hc
    exact ⟨h, by simp⟩
   ·exact .inl h
  ·exact .inr ⟨h, by simp [hm]⟩
theorem renL_eq_map (ρ : Nat → Nat) : ∀ (l : List S), renL ρ l = l.map (ren ρ)
 | [] => rfl
 | s :: r => by simp [renL, renL_eq_map ρ r]
section
variable {E : Env} {w0 : World} {own0 : Nat → Bool → Prop} {C : Ctx} {st st' : St} {w : World} {tmps : Array Value} {gl : Nat → Option S}
theorem RelSt.next {D : List Nat} (h : RelSt E w0 own0 st D tmps w) (hD : ∀ d ∈ D, d < 4096) : RelSt E w0 own0 ⟨st.sl, st.tb, st.ep + 1, st.np⟩ [] tmps w := by
 have hk : ∀ k, Known st.ep D k → Known (st.ep + 1) [] k := by
  intro k hk
  have e1 : (st.ep + 1) * 262144 = st.ep * 262144 + 262144 := Nat.succ_mul _ _
  unfold Known at hk ⊢
  refine .inl ?_
  rw [e1]
  rcases hk with hk | ⟨i, hi, hk⟩
  ·exact Nat.lt_of_lt_of_le hk (Nat.le_add_right _ _)
  ·have := hD i hi; omega
 obtain ⟨h1, h2, h3, h4, h5, h6, h7, h8, h9, h10, h11, h12⟩ := h
 exact ⟨h1, h2, h3, h4, h5, h6, h7, fun i k q => hk k (h8 i k q), fun k e q => hk k (h9 k e q), fun k e q j hj => hk j (h10 k e q j hj), h11, h12⟩
theorem RelSt.drawn {D : List Nat} {n : Nat} (h : RelSt E w0 own0 st D tmps w) : RelSt E w0 own0 st D tmps { w with drawn := n } := by
 have M : Moves (fun _ => False) E st.tb w E st.tb { w with drawn := n } :=
  ⟨fun _ b h1 h2 => ⟨h1, h2⟩, fun _ b _ o v h => h, fun b o h => h, Nat.le_refl _, fun b o _ h => h, fun k e h _ => ⟨e, h, SameForm.refl, rfl⟩, rfl⟩
 obtain ⟨h1, h2, h3, h4, h5, h6, h7, h8, h9, h10, h11, h12⟩ := h
 refine ⟨h1, fun i => M.relV (fun _ _ h => h) (h2 i), fun k e h => M.relE rfl rfl (fun _ _ => rfl) (Nat.le_refl _) (fun _ _ h => h) (h3 k e h), h4, ?_, h6, h7, h8, h9, h10, ?_, h12⟩
 ·exact ⟨h5.os, h5.tape, h5.output, h5.size, h5.block, h5.cells, h5.cellsR⟩
 ·intro g s hg
  obtain ⟨q1, q2, cs, q3, q4, q5⟩ := h11 g s hg
  exact ⟨q1, q2, cs, q3, M.rel (fun _ _ h => h) q4, q5⟩
theorem ks_pins {tb : Tbl} {np : Nat} {l ks : List Nat} (h : ks = reach tb 4 (addAll (List.range np) l)) : ks.Nodup ∧ ∀ k, k < np → ks[k]? = some k := by
 obtain ⟨q1, r1, r2, _⟩ := addAll_spec l (List.range np)
 obtain ⟨q2, r3, r4⟩ := reach_spec tb 4 (addAll (List.range np) l)
 constructor
 ·rw [h]; exact r4 (r2 List.nodup_range)
 ·intro k hk
  rw [h, r3, r1, List.append_assoc, List.getElem?_append_left (by simpa using hk)]
  simp [hk]
theorem keep_place {D : List Nat} {ks : List Nat} {es : List Ent} {ps : List Nat} {sl : List S} (hR : RelSt E w0 own0 st D tmps w) (hks : ks.Nodup) (hpin : ∀ k, k < st.np → ks[k]? = some k) (hlen : ks.length < 63)
  (hes : entsOf st.tb (sendK ks) ks = some es) (hsl : sl.length = st.sl.length) (hslot : ∀ i, sl.getD i .junk = .junk ∨ sl.getD i .junk = ren (sendK ks) (st.sl.getD i .junk)) :
  ∃ E', RelSt E' w0 own0 ⟨sl, tbOf (freezeAt ps 0 es), 1, st.np⟩ [] tmps w ∧ Later st.np E st.tb E' (tbOf (freezeAt ps 0 es)) ∧ (∀ j, E'.κ j = (ks[j]?).bind E.κ) ∧
   ∀ {s : S} {v : Value}, RelV E st.tb w s v → RelV E' (tbOf (freezeAt ps 0 es)) w (ren (sendK ks) s) v := by
 obtain ⟨σ, hσ⟩ : ∃ σ, σ = sendK ks := ⟨_, rfl⟩
 rw [← hσ] at hes hslot
 obtain ⟨hesl, hesg⟩ := entsOf_spec hes
 obtain ⟨Ec, hEc⟩ : ∃ Ec : Env, Ec = ⟨fun j => (ks[j]?).bind E.κ, E.av, E.gl⟩ := ⟨_, rfl⟩
 have hκc : ∀ (j k : Nat), ks[j]? = some k → Ec.κ j = E.κ k := by intro j k h; rw [hEc]; simp [h]
 have havc : Ec.av = E.av := by rw [hEc]
 have hglc : Ec.gl = E.gl := by rw [hEc]
 have hback : ∀ (j : Nat) (e : Ent), tbOf (freezeAt ps 0 es) j = some e → ∃ k e0, ks[j]? = some k ∧ st.tb k = some e0 ∧ (e = Ent.ren σ e0 ∨ e = (Ent.ren σ e0).freeze) := by
  intro j e he
  unfold tbOf at he
  rw [freezeAt_get, Option.map_eq_some_iff] at he
  obtain ⟨e1, h1, h2⟩ := he
  obtain ⟨k, e0, q1, q2, q3⟩ := entsOf_back hes h1
  refine ⟨k, e0, q1, q2, ?_⟩
  split at h2
  ·right; rw [← h2, q3]
  ·left; rw [← h2, q3]
 have hfz : ∀ (e e0 : Ent), (e = Ent.ren σ e0 ∨ e = (Ent.ren σ e0).freeze) → (e.fz = false → e0.fz = false) ∧ (e0.fz = true → e.fz = true) ∧ (e.fz = true ∨ e.fz = e0.fz) ∧ SameForm (Ent.ren σ e0) e ∧ e.keys = e0.keys.map σ := by
  rintro e e0 (rfl | rfl)
  ·rw [ren_fz]; exact ⟨id, id, .inr rfl, SameForm.refl, ren_ekeys _⟩
  ·rw [freeze_fz]; exact ⟨fun h => (nomatch h), fun _ => rfl, .inl rfl, SameForm.freeze, by rw [freeze_keys, ren_ekeys]⟩
 have hokc : ∀ t b, E.ok st.tb t b → Ec.ok (tbOf (freezeAt ps 0 es)) t b := by
  intro t b hb
  refine ⟨by rw [havc]; exact hb.1, fun j p e hj he hfze hpb => ?_⟩
  obtain ⟨k, e0, h1, h2, h3⟩ := hback j e he
  rw [hκc j k h1] at hj
  exact hb.2 k p e0 hj h2 ((hfz e e0 h3).1 hfze) hpb
 have X : Xfer σ E st.tb Ec (tbOf (freezeAt ps 0 es)) w False := by
  refine ⟨.inr fun t b hb _ => hokc t b hb, fun j => ?_, hglc⟩
  rw [hσ]
  rcases sendK_spec ks j with ⟨_, h⟩ | ⟨m, h1, h2, h3⟩
  ·left; rw [h]; unfold tbOf; rw [freezeAt_get, List.getElem?_eq_none (by omega)]; rfl
  ·right
   obtain ⟨e, q1, q2⟩ := hesg m j h1
   have : ∃ e2, tbOf (freezeAt ps 0 es) m = some e2 ∧ (e2 = Ent.ren σ e ∨ e2 = (Ent.ren σ e).freeze) := by
    unfold tbOf
    rw [freezeAt_get, q2]
    simp only [Option.map_some, Option.some.injEq, exists_eq_left']
    split
    ·exact .inr rfl
    ·exact .inl rfl
   obtain ⟨e2, q3, q4⟩ := this
   exact ⟨e, e2, q1, by rw [h2]; exact q3, (SameForm.ren (hR.ent j e q1)).trans (hfz e2 e q4).2.2.2.1, by rw [h2]; exact hκc m j h1⟩
 have hkle : ∀ k, σ k < 64 := by intro k; rw [hσ]; have := sendK_lt ks k hlen; omega
 have hent : ∀ (k : Nat) (e : Ent), tbOf (freezeAt ps 0 es) k = some e → RelE Ec (tbOf (freezeAt ps 0 es)) w k e := by
  intro k e he
  obtain ⟨k0, e0, h1, h2, h3⟩ := hback k e he
  have hh : RelE Ec (tbOf (freezeAt ps 0 es)) w k (Ent.ren σ e0) := by
   refine X.relE (hκc k k0 h1) (fun p hp => ?_) (fun h => h.elim) (hR.ent k0 e0 h2)
   rw [havc]; exact (hR.ent k0 e0 h2).notav hp
  rcases h3 with rfl | rfl
  ·exact hh
  ·exact hh.freeze
 refine ⟨Ec, ⟨?_, ?_, hent, ?_, hR.hist, ?_, hR.ownm, ?_, ?_, ?_, ?_, ?_⟩, ⟨havc, hglc, ?_, ?_⟩, fun j => by rw [hEc], ?_⟩
 ·show sl.length = tmps.size
  rw [hsl]; exact hR.size
 ·intro i
  show RelV Ec _ w (sl.getD i .junk) _
  rcases hslot i with h | h
  ·rw [h, relV_scalar rfl]; exact ⟨_, rfl⟩
  ·rw [h]; exact X.relV (fun h => h.elim) (hR.slot i)
 ·intro k j p q e f hp hq he hf hpq
  obtain ⟨k0, e0, h1, h2, _⟩ := hback k e he
  obtain ⟨j0, f0, h3, h4, _⟩ := hback j f hf
  rw [hκc k k0 h1] at hp
  rw [hκc j j0 h3] at hq
  have := hR.inj k0 j0 p q e0 f0 hp hq h2 h4 hpq
  subst this
  exact nodup_get hks h1 h3
 ·intro k p e hp he
  obtain ⟨k0, e0, h1, h2, h3⟩ := hback k e he
  rw [hκc k k0 h1] at hp
  rcases hR.own k0 p e0 hp h2 with h | h
  ·exact .inl h
  ·right
   rcases (hfz e e0 h3).2.2.1 with h4 | h4
   ·rw [h4]; exact hR.ownm _ _ h
   ·rw [h4]; exact h
 ·intro i k hk
  left
  rcases hslot i with h | h
  ·change k ∈ keysOf (sl.getD i .junk) at hk
   rw [h] at hk; simp [keysOf] at hk
  ·change k ∈ keysOf (sl.getD i .junk) at hk
   rw [h, ren_keys] at hk
   obtain ⟨j, _, rfl⟩ := List.mem_map.1 hk
   have := hkle j; show σ j < 1 * 262144; omega
 ·intro k e he
  left
  obtain ⟨k0, e0, h1, _⟩ := hback k e he
  have := (List.getElem?_eq_some_iff.1 h1).1
  show k < 1 * 262144
  omega
 ·intro k e he j hj
  left
  obtain ⟨k0, e0, h1, h2, h3⟩ := hback k e he
  rw [(hfz e e0 h3).2.2.2.2] at hj
  obtain ⟨m, _, rfl⟩ := List.mem_map.1 hj
  have := hkle m; show σ m < 1 * 262144; omega
 ·intro g s hg
  rw [hglc] at hg
  obtain ⟨h1, h2, cs, h3, h4, h5⟩ := hR.glob g s hg
  refine ⟨fun t => hokc t g (h1 t), h2, cs, h3, ?_, h5⟩
  have := X.rel (fun h => h.elim) h4
  rwa [ren_none h5] at this
 ·intro t b hb
  rw [havc] at hb
  exact hR.avlt t b hb
 ·intro k hk; exact hκc k k (hpin k hk)
 ·intro k hk e' he
  obtain ⟨k0, e0, h1, h2, h3⟩ := hback k e' he
  rw [hpin k hk] at h1
  cases h1
  exact ⟨e0, h2, (SameForm.ren (hR.ent k e0 h2)).trans (hfz e' e0 h3).2.2.2.1, (hfz e' e0 h3).2.1⟩
 ·intro s cs h
  rw [← hσ]
  exact X.relV (fun h => h.elim) h
theorem takeF_nil (live : List Nat) (st : St) : takeF live [] st = takeSt live st := by
 unfold takeF
 cases takeSt live st with
 | none => rfl
 | some r => simp only [freezeAt_nil]
theorem take_place {D : List Nat} {live ps : List Nat} {r : List S × List Ent} (hR : RelSt E w0 own0 st D tmps w) (h : takeF live ps st = some r) :
  ∃ E', RelSt E' w0 own0 (placeSt st.sl.length st.np live r.1 r.2) [] tmps w ∧ Later st.np E st.tb E' (tbOf r.2) := by
 unfold takeF at h
 split at h <;> try contradiction
 rename_i r0 h0
 simp only [Option.some.injEq] at h
 subst h
 unfold takeSt at h0
 simp only at h0
 split at h0 <;> try contradiction
 rename_i hlen
 split at h0 <;> try contradiction
 rename_i es hes
 simp only [Option.some.injEq] at h0
 subst h0
 obtain ⟨k1, k2⟩ := ks_pins (tb := st.tb) (np := st.np) rfl
 obtain ⟨ks, hks⟩ : ∃ ks, ks = reach st.tb 4 (addAll (List.range st.np) (keysOfL (live.map fun i => st.sl.getD i .junk))) := ⟨_, rfl⟩
 rw [← hks] at k1 k2 hlen hes ⊢
 have g1 : (placeL live (renL (sendK ks) (live.map fun i => st.sl.getD i .junk)) (List.replicate st.sl.length .junk)).length = st.sl.length := by simp [placeL_len]
 have g2 : ∀ i, (placeL live (renL (sendK ks) (live.map fun i => st.sl.getD i .junk)) (List.replicate st.sl.length .junk)).getD i .junk = .junk ∨
   (placeL live (renL (sendK ks) (live.map fun i => st.sl.getD i .junk)) (List.replicate st.sl.length .junk)).getD i .junk = ren (sendK ks) (st.sl.getD i .junk) := by
  intro i
  rw [renL_eq_map, List.map_map]
  have hj : (List.replicate st.sl.length S.junk).getD i .junk = .junk := by
   rw [List.getD_eq_getElem?_getD, List.getElem?_replicate]; split <;> rfl
  rcases placeL_get (ren (sendK ks) ∘ fun i => st.sl.getD i .junk) live (List.replicate st.sl.length .junk) i with h | ⟨h, _⟩
  ·left; rw [h, hj]
  ·right; exact h
 obtain ⟨E', h1, h2, _⟩ := keep_place (ps := ps) hR k1 k2 hlen hes g1 g2
 exact ⟨E', h1, h2⟩
end
end Go.Ab
