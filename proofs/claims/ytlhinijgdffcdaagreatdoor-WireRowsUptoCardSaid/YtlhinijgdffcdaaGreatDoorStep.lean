/- One operation that turns memory: what stands stays. -/
import Derived.Test.YtlhinijgdffcdaaGreatDoorOp1
namespace Go.Ab
open Go
set_option linter.unusedVariables false
set_option linter.unusedSimpArgs false
def Env.upd (E : Env) (t : Nat) (f : Nat → Option (Nat × Nat)) : Env := { E with κ := fun k => if k / 64 = t then f (k % 64) else E.κ k }
theorem mk_div (ep d j : Nat) (h : j < 64) : mk ep d j / 64 = ep * 4096 + d := by unfold mk; omega
theorem mk_mod (ep d j : Nat) (h : j < 64) : mk ep d j % 64 = j := by unfold mk; omega
theorem Known.notFresh {ep : Nat} {D : List Nat} {k i : Nat} (hi : i ∉ D) (hd : i < 4096) (h : Known ep D k) : k / 64 ≠ ep * 4096 + i := by
 rcases h with h | ⟨j, hj, h⟩
 ·omega
 ·intro e
  have : j = i := by omega
  exact hi (this ▸ hj)
theorem cell_same {w w' : World} {b : Nat} (h : w'.heap[b]? = w.heap[b]?) (o : Nat) : w'.cell? ⟨b, o, none⟩ = w.cell? ⟨b, o, none⟩ := by
 unfold World.cell?; rw [h]
theorem cell_lt {w : World} {b o : Nat} {v : Value} (h : w.cell? ⟨b, o, none⟩ = some v) : b < w.heap.size := by
 unfold World.cell? at h
 simp only at h
 by_cases hb : b < w.heap.size
 ·exact hb
 ·rw [Array.getElem?_eq_none (by omega)] at h; cases h
section
variable {E E' : Env} {w0 : World} {own0 : Nat → Bool → Prop} {st : St} {D : List Nat} {tmps : Array Value} {w w' : World} {tb' : Tbl} {i : Nat}
theorem RelE.lt {tb : Tbl} {k : Nat} {e : Ent} (h : RelE E tb w k e) {p : Nat × Nat} (hp : E.κ k = some p) : p.1 < w.heap.size := by
 cases e with
 | box s fz => obtain ⟨b, cs, h1, h2, _⟩ := h; rw [hp] at h1; cases h1; exact h2
 | buf e xs fz =>
  obtain ⟨_, h⟩ := h
  rw [hp] at h
  exact h.1
 | map kt vt m fz =>
  obtain ⟨b, es, c, h1, _, h2, _⟩ := h
  rw [hp] at h1; cases h1
  by_cases hb : b < w.heap.size
  ·exact hb
  ·rw [Array.getElem?_eq_none (by omega)] at h2; cases h2
theorem RelE.notav {tb : Tbl} {k : Nat} {e : Ent} (h : RelE E tb w k e) {p : Nat × Nat} (hp : E.κ k = some p) : ∀ t, ¬ E.av t p.1 := by
 cases e with
 | box s fz => obtain ⟨b, cs, h1, _, _, _, _, _, h2⟩ := h; rw [hp] at h1; cases h1; exact h2
 | buf e xs fz =>
  obtain ⟨_, h⟩ := h
  rw [hp] at h
  exact h.2.1
 | map kt vt m fz =>
  obtain ⟨b, es, c, h1, h2, _⟩ := h
  rw [hp] at h1; cases h1; exact h2
theorem RtV.mono {ok ok' : Ty → Nat → Prop} (hk : ∀ t b, ok t b → b < w.heap.size → ok' t b ∧ b < w'.heap.size)
  (hc : ∀ t b, ok t b → ∀ o v, w.cell? ⟨b, o, none⟩ = some v → w'.cell? ⟨b, o, none⟩ = some v) {vt : Ty} {v : Value} {b : vt.den} (h : RtV w ok vt v b) : RtV w' ok' vt v b := by
 unfold RtV at h ⊢
 split
 ·rename_i ha; rw [if_pos ha] at h; obtain ⟨a, h1, h2⟩ := h; exact ⟨a, h1, Rt.mono hk hc h2⟩
 ·rename_i ha; rw [if_neg ha] at h; exact Rt.mono hk hc h
theorem RelM.moves {Fr : Nat → Prop} {tb tb' : Tbl} (M : Moves Fr E tb w E' tb' w') {kt vt : Ty} : ∀ {es : List MapEntry} {m : List (kt.den × vt.den)}, RelM w (E.ok tb) kt vt es m → RelM w' (E'.ok tb') kt vt es m
 | [], m, h => h
 | e :: r, m, h => by
  obtain ⟨a, b, q, h1, h2, h3, h5⟩ := h
  exact ⟨a, b, q, h1, M.rt h2, RtV.mono M.ok M.cell h3, RelM.moves M h5⟩
theorem Moves.relE {Fr : Nat → Prop} {tb tb' : Tbl} (M : Moves Fr E tb w E' tb' w') {k : Nat} {e : Ent} (hκ : E'.κ k = E.κ k) (hav : E'.av = E.av)
  (hb : ∀ p, E.κ k = some p → w'.heap[p.1]? = w.heap[p.1]?) (hs : w.heap.size ≤ w'.heap.size) (hk : ∀ j ∈ e.keys, ¬ Fr j) (h : RelE E tb w k e) : RelE E' tb' w' k e := by
 cases e with
 | box s fz =>
  obtain ⟨b, cs, h1, h2, h3, h4, h5, h6, h7⟩ := h
  have hbb := hb _ h1
  refine ⟨b, cs, by rw [hκ]; exact h1, by omega, ?_, M.rel hk h4, h5, ?_, by rw [hav]; exact h7⟩
  ·exact h3.mono fun o v hv => by rw [cell_same hbb]; exact hv
  ·intro hf; obtain ⟨c, el, lo, hi, q1, q2⟩ := h6 hf; exact ⟨c, el, lo, hi, hbb.trans q1, q2⟩
 | buf e xs fz =>
  obtain ⟨h0, h⟩ := h
  refine ⟨h0, ?_⟩
  rw [hκ]
  cases hq : E.κ k with
  | none => rw [hq] at h; exact h
  | some p =>
   obtain ⟨b, o⟩ := p
   rw [hq] at h
   have hbb := hb _ hq
   obtain ⟨h1, h2, h3, h4⟩ := h
   refine ⟨by omega, by rw [hav]; exact h2, fun hf => ?_, fun i hi => ?_⟩
   ·obtain ⟨c, el, lo, hi, q1, q2⟩ := h3 hf; exact ⟨c, el, lo, hi, hbb.trans q1, q2⟩
   ·obtain ⟨ecs, q1, q2⟩ := h4 i hi
    exact ⟨ecs, q1.mono fun o v hv => by rw [cell_same hbb]; exact hv, M.rt q2⟩
 | map kt vt m fz =>
  obtain ⟨b, es, c, h1, h2, h3, h4⟩ := h
  exact ⟨b, es, c, by rw [hκ]; exact h1, by rw [hav]; exact h2, (hb _ h1).trans h3, RelM.moves M h4⟩
structure Turn (E : Env) (w0 : World) (own0 : Nat → Bool → Prop) (st : St) (w : World) (t : Nat) (K : Nat → Prop) (T : Nat → Prop) (E' : Env) (tb' : Tbl) (w' : World) : Prop where
 size : w.heap.size ≤ w'.heap.size
 os : w'.os = w.os
 tape : w'.tape = w.tape
 output : w'.output = w.output
 tgt : ∀ b, T b → ∃ k p e, E.κ k = some p ∧ st.tb k = some e ∧ e.fz = false ∧ p.1 = b
 blk : ∀ b, b < w.heap.size → ¬ T b → w'.heap[b]? = w.heap[b]?
 cells : ∀ b o, T b → (w.cell? ⟨b, o, none⟩).isSome → (w'.cell? ⟨b, o, none⟩).isSome
 cellsR : ∀ b o, T b → (w'.cell? ⟨b, o, none⟩).isSome → (w.cell? ⟨b, o, none⟩).isSome
 κ : ∀ k, k / 64 ≠ t → E'.κ k = E.κ k
 av : E'.av = E.av
 gl : E'.gl = E.gl
 old : ∀ k e', tb' k = some e' → k / 64 ≠ t → ∃ e, st.tb k = some e ∧ SameForm e e' ∧ (e.fz = true → e'.fz = true) ∧
  ((e' = e ∧ ∀ p, E.κ k = some p → ¬ T p.1) ∨ (Moves (fun k => k / 64 = t) E st.tb w E' tb' w' → RelE E' tb' w' k e' ∧ ∀ j ∈ e'.keys, K j))
 new : ∀ k e', tb' k = some e' → k / 64 = t → (Moves (fun k => k / 64 = t) E st.tb w E' tb' w' → RelE E' tb' w' k e' ∧ ∀ j ∈ e'.keys, K j) ∧
  ∀ p, E'.κ k = some p → w.heap.size ≤ p.1 ∨ ∃ j q e, E.κ j = some q ∧ q.1 = p.1 ∧ st.tb j = some e ∧ (e'.fz = false → e.fz = false) ∧ tb' j = none
 apart : ∀ k j p q e f, k / 64 = t → j / 64 = t → E'.κ k = some p → E'.κ j = some q → tb' k = some e → tb' j = some f → p.1 = q.1 → k = j
variable {t : Nat} {T K : Nat → Prop}
theorem Turn.moves (h : RelSt E w0 own0 st D tmps w) (U : Turn E w0 own0 st w t K T E' tb' w') : Moves (fun k => k / 64 = t) E st.tb w E' tb' w' := by
 have hok : ∀ t b, E.ok st.tb t b → ¬ T b := by
  intro t b hb hT
  obtain ⟨k, p, e, h1, h2, h3, h4⟩ := U.tgt b hT
  exact hb.2 k p e h1 h2 h3 h4
 refine ⟨fun t' b hb hl => ⟨⟨by rw [U.av]; exact hb.1, ?_⟩, Nat.lt_of_lt_of_le hl U.size⟩, ?_, ?_, U.size, ?_, ?_, U.gl⟩
 ·intro k p e' hp he' hf
  by_cases hk : k / 64 = t
  ·rcases (U.new k e' he' hk).2 p hp with h1 | ⟨j, q, e, h1, h2, h3, h4, _⟩
   ·omega
   ·rw [← h2]; exact hb.2 j q e h1 h3 (h4 hf)
  ·obtain ⟨e, h1, _, h3, _⟩ := U.old k e' he' hk
   rw [U.κ k hk] at hp
   refine hb.2 k p e hp h1 ?_
   cases hfe : e.fz with
   | false => rfl
   | true => rw [h3 hfe] at hf; cases hf
 ·intro t' b hb o v hv
  rw [cell_same (U.blk b (cell_lt hv) (hok t' b hb))]; exact hv
 ·intro b o hs
  by_cases hT : T b
  ·exact U.cells b o hT hs
  ·obtain ⟨v, hv⟩ := Option.isSome_iff_exists.1 hs
   rw [cell_same (U.blk b (cell_lt hv) hT)]; exact hs
 ·intro b o hb hs
  by_cases hT : T b
  ·exact U.cellsR b o hT hs
  ·rw [cell_same (U.blk b hb hT)] at hs; exact hs
 ·intro k e' he' hk
  obtain ⟨e, h1, h2, _⟩ := U.old k e' he' hk
  exact ⟨e, h1, h2, U.κ k hk⟩
theorem RelSt.turn {D' : List Nat} (h : RelSt E w0 own0 st D tmps w) (U : Turn E w0 own0 st w t K T E' tb' w')
  (hn : ∀ k, Known st.ep D k → k / 64 ≠ t) (hD : ∀ k, Known st.ep D k → Known st.ep D' k) (hK : ∀ k, K k → Known st.ep D' k) (ht : ∀ k, k / 64 = t → Known st.ep D' k) :
  RelSt E' w0 own0 ⟨st.sl, tb', st.ep, st.np⟩ D' tmps w' := by
 have M := U.moves h
 have hent : ∀ k e', tb' k = some e' → RelE E' tb' w' k e' ∧ ∀ j ∈ e'.keys, Known st.ep D' j := by
  intro k e' he'
  by_cases hk : k / 64 = t
  ·have := (U.new k e' he' hk).1 M; exact ⟨this.1, fun j hj => hK j (this.2 j hj)⟩
  ·obtain ⟨e, h1, _, _, h4⟩ := U.old k e' he' hk
   rcases h4 with ⟨rfl, h4⟩ | h4
   ·have hr := h.ent k e' h1
    refine ⟨M.relE (U.κ k hk) U.av (fun p hp => U.blk _ (hr.lt hp) (h4 p hp)) U.size (fun j hj => hn j (h.keyE k e' h1 j hj)) hr, fun j hj => hD j (h.keyE k e' h1 j hj)⟩
   ·have := h4 M; exact ⟨this.1, fun j hj => hK j (this.2 j hj)⟩
 have place : ∀ k p e', E'.κ k = some p → tb' k = some e' → w.heap.size ≤ p.1 ∨ ∃ j q e, E.κ j = some q ∧ q.1 = p.1 ∧ st.tb j = some e ∧ (e'.fz = false → e.fz = false) ∧ ((j = k ∧ k / 64 ≠ t) ∨ (k / 64 = t ∧ tb' j = none)) := by
  intro k p e' hp he'
  by_cases hk : k / 64 = t
  ·rcases (U.new k e' he' hk).2 p hp with h1 | ⟨j, q, e, h1, h2, h3, h4, h5⟩
   ·exact .inl h1
   ·exact .inr ⟨j, q, e, h1, h2, h3, h4, .inr ⟨hk, h5⟩⟩
  ·obtain ⟨e, h1, _, h3, _⟩ := U.old k e' he' hk
   rw [U.κ k hk] at hp
   refine .inr ⟨k, p, e, hp, rfl, h1, fun hf => ?_, .inl ⟨rfl, hk⟩⟩
   cases hfe : e.fz with
   | false => rfl
   | true => rw [h3 hfe] at hf; cases hf
 refine ⟨h.size, fun i => M.relV (fun k hk => hn k (h.keyS i k hk)) (h.slot i), fun k e he => (hent k e he).1, ?_, ?_, ?_, h.ownm, fun i k hk => hD k (h.keyS i k hk), ?_, fun k e he => (hent k e he).2, ?_, ?_⟩
 ·intro k j p q e f hp hq he hf hpq
  by_cases hkj : k / 64 = t ∧ j / 64 = t
  ·exact U.apart k j p q e f hkj.1 hkj.2 hp hq he hf hpq
  ·rcases place k p e hp he with h1 | ⟨k1, p1, e1, a1, a2, a3, _, a5⟩ <;> rcases place j q f hq hf with h2 | ⟨j1, q1, f1, b1, b2, b3, _, b5⟩
   ·exfalso
    have hk' : k / 64 = t := by
     by_cases hk : k / 64 = t
     ·exact hk
     ·obtain ⟨e1, g1, _⟩ := U.old k e he hk
      rw [U.κ k hk] at hp
      have := (h.ent k e1 g1).lt hp
      omega
    have hj' : j / 64 = t := by
     by_cases hk : j / 64 = t
     ·exact hk
     ·obtain ⟨e1, g1, _⟩ := U.old j f hf hk
      rw [U.κ j hk] at hq
      have := (h.ent j e1 g1).lt hq
      omega
    exact hkj ⟨hk', hj'⟩
   ·exfalso; have := (h.ent j1 f1 b3).lt b1; omega
   ·exfalso; have := (h.ent k1 e1 a3).lt a1; omega
   ·have hkk : k1 = j1 := h.inj k1 j1 p1 q1 e1 f1 a1 b1 a3 b3 (by omega)
    rcases a5 with ⟨rfl, ha⟩ | ⟨ha, ha'⟩ <;> rcases b5 with ⟨rfl, hb⟩ | ⟨hb, hb'⟩
    ·exact hkk
    ·subst hkk; have := hb'.symm.trans he; cases this
    ·subst hkk; have := ha'.symm.trans hf; cases this
    ·exact absurd ⟨ha, hb⟩ hkj
 ·refine ⟨U.os.trans h.hist.os, U.tape.trans h.hist.tape, U.output.trans h.hist.output, Nat.le_trans h.hist.size U.size, fun b hb hn0 => ?_, fun b o hs => M.some_ b o (h.hist.cells b o hs), fun b o hb hs => h.hist.cellsR b o hb (M.none_ b o (Nat.lt_of_lt_of_le hb h.hist.size) hs)⟩
  have hT : ¬ T b := by
   intro hT
   obtain ⟨k, p, e, h1, h2, h3, h4⟩ := U.tgt b hT
   rcases h.own k p e h1 h2 with h5 | h5
   ·omega
   ·rw [h4, h3] at h5; exact hn0 h5
  rw [U.blk b (Nat.lt_of_lt_of_le hb h.hist.size) hT]
  exact h.hist.block b hb hn0
 ·intro k p e' hp he'
  rcases place k p e' hp he' with h1 | ⟨j, q, e, h1, h2, h3, h4, _⟩
  ·exact .inl (Nat.le_trans h.hist.size h1)
  ·rw [← h2]
   rcases h.own j q e h1 h3 with h5 | h5
   ·exact .inl h5
   ·refine .inr ?_
    cases hf : e'.fz with
    | true => exact h.ownm _ _ h5
    | false => rw [h4 hf] at h5; exact h5
 ·intro k e' he'
  by_cases hk : k / 64 = t
  ·exact ht k hk
  ·obtain ⟨e, h1, _⟩ := U.old k e' he' hk
   exact hD k (h.keyT k e h1)
 ·intro g s hg
  obtain ⟨h1, h2, cs, h3, h4, h5⟩ := h.glob g s (by rw [← U.gl]; exact hg)
  exact ⟨fun t => (M.ok t g (h1 t) h2).1, (M.ok .unit g (h1 _) h2).2, cs, h3.mono (M.cell .unit g (h1 _)), M.rel (by rw [h5]; simp) h4, h5⟩
 ·intro t' b hb
  exact Nat.lt_of_lt_of_le (h.avlt t' b (by rw [← U.av]; exact hb)) U.size
end
end Go.Ab
