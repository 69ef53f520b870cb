/- Blocks that are hidden for a while: nobody's to look at, ours to turn. -/
import Derived.Test.YtnnojemckfikfaaJoin
namespace Go.Ab
open Go
set_option linter.unusedVariables false
set_option linter.unusedSimpArgs false

section
variable {E : Env} {w0 : World} {own0 : Nat → Bool → Prop} {st : St} {D : List Nat} {tmps : Array Value} {w w' : World}

/-- other blocks are hidden, and hidden blocks turn: what is said of the rest stays -/
theorem RelSt.shift (h : RelSt E w0 own0 st D tmps w) (av' : Nat → Prop)
    (hok : ∀ b, E.ok st.tb b → b < w.heap.size → ¬ av' b) (hent : ∀ k p e, E.κ k = some p → st.tb k = some e → ¬ av' p.1)
    (hsz : w.heap.size ≤ w'.heap.size) (hblk : ∀ b, b < w.heap.size → ¬ E.av b → w'.heap[b]? = w.heap[b]?) (hcells : ∀ b o, (w.cell? ⟨b, o, none⟩).isSome → (w'.cell? ⟨b, o, none⟩).isSome) (hcellsR : ∀ b o, b < w.heap.size → (w'.cell? ⟨b, o, none⟩).isSome → (w.cell? ⟨b, o, none⟩).isSome)
    (hH : Hist w0 (own0 · false) w') (hlt : ∀ b, av' b → b < w'.heap.size) : RelSt ⟨E.κ, av', E.gl⟩ w0 own0 st D tmps w' := by
  have hcell : ∀ b, ¬ E.av b → ∀ o v, w.cell? ⟨b, o, none⟩ = some v → w'.cell? ⟨b, o, none⟩ = some v := fun b hb o v hv => by
    rw [cell_same (hblk b (cell_lt hv) hb)]; exact hv
  have M : Moves (fun _ => False) E st.tb w ⟨E.κ, av', E.gl⟩ st.tb w' :=
    ⟨fun b h1 h2 => ⟨⟨hok b h1 h2, h1.2⟩, by omega⟩, fun b hb o v hv => hcell b hb.1 o v hv, hcells, hsz, hcellsR, fun k e h _ => ⟨e, h, SameForm.refl, rfl⟩, rfl⟩
  have hE : ∀ k e, st.tb k = some e → RelE ⟨E.κ, av', E.gl⟩ st.tb w' k e := by
    intro k e he
    have hr := h.ent k e he
    have hav : ∀ p, E.κ k = some p → ¬ av' p.1 := fun p hp => hent k p e hp he
    have hbb : ∀ p, E.κ k = some p → w'.heap[p.1]? = w.heap[p.1]? := fun p hp => hblk _ (hr.lt hp) (hr.notav hp)
    cases e with
    | box s fz =>
      obtain ⟨b, cs, h1, h2, h3, h4, h5, h6, h7⟩ := hr
      have hb := hbb _ h1
      refine ⟨b, cs, h1, by omega, ?_, M.rel (fun _ _ z => z) h4, h5, ?_, hav _ h1⟩
      · exact h3.mono fun o v hv => by rw [cell_same hb]; exact hv
      · intro hf; obtain ⟨c, el, lo, hi, q1, q2⟩ := h6 hf; exact ⟨c, el, lo, hi, hb.trans q1, q2⟩
    | buf e xs fz =>
      obtain ⟨h0, hr⟩ := hr
      refine ⟨h0, ?_⟩
      show match E.κ k with | some (b, o) => _ | none => _
      cases hq : E.κ k with
      | none => rw [hq] at hr; exact hr
      | some p =>
        obtain ⟨b, o⟩ := p
        rw [hq] at hr
        have hb := hbb _ hq
        obtain ⟨h1, h2, h3, h4⟩ := hr
        refine ⟨by omega, hav _ hq, fun hf => ?_, fun i hi => ?_⟩
        · obtain ⟨c, el, lo, hi, q1, q2⟩ := h3 hf; exact ⟨c, el, lo, hi, hb.trans q1, q2⟩
        · obtain ⟨ecs, q1, q2⟩ := h4 i hi
          exact ⟨ecs, q1.mono fun o v hv => by rw [cell_same hb]; exact hv, M.rt q2⟩
    | map kt vt m fz =>
      obtain ⟨b, es, c, h1, h2, h3, h4⟩ := hr
      exact ⟨b, es, c, h1, hav _ h1, (hbb _ h1).trans h3, RelM.moves M h4⟩
  obtain ⟨h1, h2, h3, h4, h5, h6, h7, h8, h9, h10, h11, h12⟩ := h
  refine ⟨h1, fun i => M.relV (fun _ _ z => z) (h2 i), hE, h4, hH, h6, h7, h8, h9, h10, ?_, hlt⟩
  intro g s hg
  obtain ⟨q1, q2, cs, q3, q4, q5⟩ := h11 g s hg
  exact ⟨(M.ok g q1 q2).1, (M.ok g q1 q2).2, cs, q3.mono fun o v hv => hcell g q1.1 o v hv, M.rel (fun _ _ z => z) q4, q5⟩

/-- the blocks that a state's entries have -/
def ownsT (E : Env) (tb : Tbl) (b : Nat) (f : Bool) : Prop := ∃ k p e, E.κ k = some p ∧ tb k = some e ∧ p.1 = b ∧ (e.fz = true → f = true)

/-- a state may be looked at from any moment on -/
theorem RelSt.fresh (h : RelSt E w0 own0 st D tmps w) : RelSt E w (ownsT E st.tb) st D tmps w := by
  obtain ⟨h1, h2, h3, h4, h5, h6, h7, h8, h9, h10, h11, h12⟩ := h
  refine ⟨h1, h2, h3, h4, ⟨rfl, rfl, rfl, Nat.le_refl _, fun _ _ _ => rfl, fun _ _ q => q, fun _ _ _ q => q⟩, fun k p e hp he => .inr ⟨k, p, e, hp, he, rfl, id⟩, ?_, h8, h9, h10, h11, h12⟩
  rintro b f ⟨k, p, e, q1, q2, q3, q4⟩
  exact ⟨k, p, e, q1, q2, q3, fun _ => rfl⟩

/-- and back -/
theorem RelSt.since {E' : Env} {st' : St} {D' : List Nat} {tmps' : Array Value} (h : RelSt E w0 own0 st D tmps w) (h' : RelSt E' w (ownsT E st.tb) st' D' tmps' w') : RelSt E' w0 own0 st' D' tmps' w' := by
  have hown : ∀ b f, ownsT E st.tb b f → w0.heap.size ≤ b ∨ own0 b f := by
    rintro b f ⟨k, p, e, q1, q2, rfl, q4⟩
    rcases h.own k p e q1 q2 with z | z
    · exact .inl z
    · right
      cases hf : e.fz with
      | true => rw [q4 hf]; exact h.ownm _ _ z
      | false =>
        rw [hf] at z
        cases f with
        | false => exact z
        | true => exact h.ownm _ _ z
  obtain ⟨h1, h2, h3, h4, h5, h6, h7, h8, h9, h10, h11, h12⟩ := h'
  refine ⟨h1, h2, h3, h4, ⟨h5.os.trans h.hist.os, h5.tape.trans h.hist.tape, h5.output.trans h.hist.output, Nat.le_trans h.hist.size h5.size, fun b hb hn => ?_, fun b o q => h5.cells b o (h.hist.cells b o q), fun b o hb q => h.hist.cellsR b o hb (h5.cellsR b o (Nat.lt_of_lt_of_le hb h.hist.size) q)⟩, fun k p e hp he => ?_, h.ownm, h8, h9, h10, h11, h12⟩
  · have hb2 : b < w.heap.size := Nat.lt_of_lt_of_le hb h.hist.size
    rw [h5.block b hb2 (fun q => by
      rcases hown b false q with z | z
      · omega
      · exact hn z)]
    exact h.hist.block b hb hn
  · rcases h6 k p e hp he with z | z
    · exact .inl (Nat.le_trans h.hist.size z)
    · exact hown _ _ z

/-- code leaves alone what is hidden -/
theorem CodeDoes.framed {P : Program} {gl : Nat → Option S} {c : Code} {o : Out} {st' : St} {a : Act} (hd : CodeDoes P gl st c o st') (hep : 1 ≤ st.ep) (hnp : st.np < 64) (hgl : E.gl = gl) (h : RelSt E w0 own0 st [] a.tmps w) :
    c.wp P (fun e a' w' => e = outE o ∧ Kept E w0 own0 st a st' a' w' ∧ ∀ b, E.av b → w'.heap[b]? = w.heap[b]?) a w := by
  refine Code.wp_mono' (hd hep hnp E w (ownsT E st.tb) a w hgl h.fresh) ?_
  rintro e a' w' ⟨rfl, ⟨E', q1, q2⟩, q3, q4, q5, q6⟩
  refine ⟨rfl, ⟨⟨E', h.since q1, q2⟩, q3, q4, q5, q6⟩, fun b hb => q1.hist.block b (h.avlt b hb) ?_⟩
  rintro ⟨k, p, e, z1, z2, z3, _⟩
  exact (h.ent k e z2).notav z1 (by rw [z3]; exact hb)
end
end Go.Ab
