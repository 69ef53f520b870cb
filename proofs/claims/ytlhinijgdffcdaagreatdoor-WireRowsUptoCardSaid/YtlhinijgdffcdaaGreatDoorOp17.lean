/- A slice of bytes, converted to its own type. -/
import Derived.Test.YtlhinijgdffcdaaGreatDoorOp14
namespace Go.Ab
open Go
set_option linter.unusedVariables false
set_option linter.unusedSimpArgs false
section
variable {E : Env} {w0 : World} {own0 : Nat → Bool → Prop} {st : St} {D : List Nat} {a : Act} {w : World} {C : Ctx} {o : Oper} {i : Nat} {r : OpR}
theorem freeze_cell (w : World) (b n : Nat) (x : Addr) : (w.freeze ⟨b, n, none⟩ 1).cell? x = w.cell? x := by
 unfold World.freeze World.cell?
 simp only [Nat.one_ne_zero, if_false, Array.getElem?_modify]
 by_cases h : b = x.block
 ·rw [if_pos h]
  cases hq : w.heap[x.block]? with
  | none => rfl
  | some ob => cases ob <;> rfl
 ·rw [if_neg h]
theorem opS_mark {src dst : TypeId} {x : Operand} (hR : RelSt E w0 own0 st D a.tmps w) (hi : i ∉ D) (ho : o.op = .convert src dst x)
  (hno : (decide (src = dst) && isOwnS (evalS st.sl x)) = true)
  (h : opS C o st.ep i (evalS st.sl) st.tb = some r) (hg : ∀ g ∈ r.g, g = true) : OpGood C.P E w0 own0 st D i o r.v r.ef a w := by
 have hd := opS_lt h
 have hx := hR.eval x
 unfold opS at h
 rw [ho] at h
 simp only [hd, decide_true, Bool.not_true, Bool.false_eq_true, if_false] at h
 rw [if_pos hno] at h
 rw [Bool.and_eq_true, decide_eq_true_eq] at hno
 obtain ⟨rfl, _⟩ := hno
 unfold markS at h
 split at h <;> try contradiction
 rename_i e k hu hs
 split at h <;> try contradiction
 rename_i xs he hk
 simp only [Option.some.injEq] at h; subst h
 have hpos : 0 < xs.length := by simpa using hg
 rw [hs] at hx
 have hx0 := hx
 rw [relV_scalar rfl] at hx
 simp only [Rel, hk] at hx
 obtain ⟨p, cap, hv, hc1, hc2⟩ := hx
 have hv := (List.cons.inj hv).1
 obtain ⟨hxl, hent⟩ := hR.ent k _ hk
 cases hκ : E.κ k with
 | none => rw [hκ] at hent; rw [hent] at hpos; simp at hpos
 | some pq =>
  obtain ⟨b, off⟩ := pq
  rw [hκ] at hc2 hent
  obtain ⟨rfl, hcc⟩ := hc2
  obtain ⟨hblt, hnav, hfree, hrow⟩ := hent
  obtain ⟨cur, el, lo, hi', hheap, hfr⟩ := hfree rfl
  have hkt : k / 64 ≠ st.ep * 4096 + i := (hR.keyT k _ hk).notFresh hi hd
  obtain ⟨w', hw'⟩ : ∃ w', w' = w.freeze ⟨b, cur.size, none⟩ 1 := ⟨_, rfl⟩
  have hcell : ∀ y, w'.cell? y = w.cell? y := by intro y; rw [hw']; exact freeze_cell w b cur.size y
  have hother : ∀ j, j ≠ b → w'.heap[j]? = w.heap[j]? := by
   intro j hj
   rw [hw']; unfold World.freeze
   simp only [Nat.one_ne_zero, if_false, Array.getElem?_modify]
   rw [if_neg (fun q => hj q.symm)]
  have hself : FreeBlk w' b := by
   have : w'.heap[b]? = some (.cells cur el (if lo == hi' then (cur.size, cur.size + 1) else (min lo cur.size, max hi' (cur.size + 1)))) := by
    rw [hw']; unfold World.freeze
    simp only [Nat.one_ne_zero, if_false, Array.getElem?_modify, if_true]
    rw [hheap]; rfl
   by_cases hl : lo = hi'
   ·refine ⟨cur, el, cur.size, cur.size + 1, ?_, .inr (Nat.le_refl _)⟩
    rw [this, if_pos (by simp [hl])]
   ·refine ⟨cur, el, min lo cur.size, max hi' (cur.size + 1), ?_, .inr ?_⟩
    ·rw [this, if_neg (by simp [hl])]
    ·rcases hfr with hfr | hfr
     ·exact absurd hfr hl
     ·omega
  have hsize : w'.heap.size = w.heap.size := by
   rw [hw']; unfold World.freeze; simp
  have heq : st.tb.sets [(k, some (.buf (.int .u8) xs false))] = st.tb := by
   funext j
   show (st.tb.set k _) j = _
   by_cases hj : j = k
   ·subst hj; rw [set_eq, hk]
   ·rw [set_ne _ hj]
  have U : Turn E w0 own0 st w (st.ep * 4096 + i) (Known st.ep (i :: D)) (· = b) E (st.tb.sets [(k, some (.buf (.int .u8) xs false))]) w' := by
   rw [heq]
   refine ⟨by omega, by rw [hw']; unfold World.freeze; simp, by rw [hw']; unfold World.freeze; simp, by rw [hw']; unfold World.freeze; simp, ?_, fun j _ hj => hother j hj, fun b' o' _ h => by rw [hcell]; exact h, fun b' o' _ h => by rw [hcell] at h; exact h, fun _ _ => rfl, rfl, rfl, ?_, ?_, ?_⟩
   ·rintro b' rfl
    exact ⟨k, _, _, hκ, hk, rfl, rfl⟩
   ·intro k' e' he' hk'
    refine ⟨e', he', SameForm.refl, id, ?_⟩
    by_cases hkk : k' = k
    ·right
     subst hkk
     rw [hk] at he'; cases he'
     intro M
     refine ⟨⟨hxl, ?_⟩, by simp [Ent.keys]⟩
     rw [hκ]
     refine ⟨by omega, hnav, fun _ => hself, fun j hj => ?_⟩
     obtain ⟨ecs, q1, q2⟩ := hrow j hj
     exact ⟨ecs, q1.mono fun o v hv => by rw [hcell]; exact hv, M.rt q2⟩
    ·left
     refine ⟨rfl, fun p hp hpb => hkk ?_⟩
     exact hR.inj k' k p _ e' _ hp hκ he' hk hpb
   ·intro k' e' he' hk'
    exact absurd hk' ((hR.keyT k' e' he').notFresh hi hd)
   ·intro k' j p q e1 f1 hk' _ _ _ he1 _ _
    exact absurd hk' ((hR.keyT k' e1 he1).notFresh hi hd)
  refine turn_good (C := C) (w' := w') (u := a.eval x) hR hi hd U (.inl ?_) ?_
  ·unfold execOp; rw [ho]
   have hsh : w.shape? b = some (el, cur.size) := by unfold World.shape?; rw [hheap]
   have : (convert src src (.slice (some ⟨b, off, none⟩) xs.length cap)).run C.P w = .ok (.slice (some ⟨b, off, none⟩) xs.length cap) w' := by
    simp [convert, run_underlying hu, run_underlying he, markStringish, hsh, hw']
   simp [hv, this]
  ·intro M
   refine ⟨M.relV (fun j hj => ?_) hx0, fun j hj => ?_⟩
   ·simp only [keysOf, List.mem_singleton] at hj; subst hj; exact hkt
   ·simp only [keysOf, List.mem_singleton] at hj; subst hj; exact (hR.keyT _ _ hk).cons
end
end Go.Ab
