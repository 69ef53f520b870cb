/- Operations that leave memory as it is. -/
import Derived.Test.YtlhinijgdffcdaaGreatDoorMem
namespace Go.Ab
open Go
set_option linter.unusedVariables false
set_option linter.unusedSimpArgs false
section
variable {E : Env} {w0 : World} {own0 : Nat → Bool → Prop} {st : St} {D : List Nat} {a : Act} {w : World} {C : Ctx} {o : Oper} {i : Nat} {r : OpR}
theorem opS_load {t : TypeId} {x : Operand} (hgl : E.gl = C.glob) (hR : RelSt E w0 own0 st D a.tmps w)
  (ho : o.op = .load t x) (h : opS C o st.ep i (evalS st.sl) st.tb = some r) (hg : ∀ g ∈ r.g, g = true) :
  OpGood C.P E w0 own0 st D i o r.v r.ef a w := by
 have hx := hR.eval x
 have hk := hR.evalKeys x
 unfold opS at h
 rw [ho] at h
 split at h
 ·cases h
 simp only at h
 have hrun : ∀ (b f : Nat) (v : Value), a.eval x = .pointer (some ⟨b, f, none⟩) → (loadVar t ⟨b, f, none⟩).run C.P w = .ok v w →
   (execOp a.eval o).run C.P w = .ok (.value v) w := by
  intro b f v hv hl
  unfold execOp
  rw [ho]
  simp only [Instr.loadAt, hv, Instr.sureAddr]
  simp only [Sem.run_bind, Sem.run_bind', Sem.run_pure, Result.andThen, hl]
 generalize hs : evalS st.sl x = s at h hx hk
 cases s <;> simp only at h <;> try (cases h; done)
 case ptr k p =>
  rw [relV_scalar rfl] at hx
  simp only [Rel] at hx
  cases he : st.tb k with
  | none => simp [he] at h
  | some ent =>
   rw [he] at hx
   simp only [he, Option.bind_some] at h
   obtain ⟨hp, b, f, hκ, hv⟩ := hx
   cases hge : getE ent p with
   | none => simp [hge] at h
   | some s =>
    simp only [hge, Option.bind_some] at h
    split at h <;> try (cases h; done)
    rename_i hc
    simp only [ok, Option.some.injEq] at h
    subst h
    rw [Bool.and_eq_true] at hc
    obtain ⟨b', f', ds, hκ', hl, hr, hkk⟩ := getE_rel hp (hR.ent k ent he) hge
    rw [hκ] at hκ'; cases hκ'
    obtain ⟨v, hrv, hvv⟩ := run_loadVar hl hr hc.1 hc.2
    exact OpGood.value hR (hrun _ _ _ (by simpa using hv) hrv) hvv (fun j hj => hR.keyE k ent he j (hkk j hj))
 case iref u y =>
  rw [relV_scalar rfl] at hx
  simp only [Rel] at hx
  obtain ⟨b, f, ecs, hv, _, _, hl, hr⟩ := hx
  split at h <;> try (cases h; done)
  rename_i hc
  simp only [ok, Option.some.injEq] at h
  subst h
  rw [Bool.and_eq_true] at hc
  obtain ⟨v, hrv, hvv⟩ := run_loadVar hl (Rt.lift hr) hc.1 hc.2
  exact OpGood.value hR (hrun _ _ _ (by simpa using hv) hrv) hvv (fun j hj => by rw [lift_keys] at hj; cases hj)
 case gptr g p =>
  rw [relV_scalar rfl] at hx
  simp only [Rel] at hx
  rw [← hgl] at h
  cases hgs : E.gl g with
  | none => simp [hgs] at h
  | some s =>
   rw [hgs] at hx
   simp only [hgs, Option.bind_some] at h
   obtain ⟨hp, hv⟩ := hx
   obtain ⟨_, _, cs, hl, hr, hks⟩ := hR.glob g s hgs
   cases hge : getS p s with
   | none => simp [hge] at h
   | some s' =>
    simp only [hge, Option.bind_some] at h
    split at h <;> try (cases h; done)
    rename_i hc
    simp only [ok, Option.some.injEq] at h
    subst h
    rw [Bool.and_eq_true] at hc
    obtain ⟨ds, q1, q2, q3⟩ := getS_rel hp hr hge
    obtain ⟨v, hrv, hvv⟩ := run_loadVar (q1.lies hl) q2 hc.1 hc.2
    rw [Nat.zero_add] at hrv
    exact OpGood.value hR (hrun _ _ _ (by simpa using hv) hrv) hvv (fun j hj => by have := q3 j hj; rw [hks] at this; cases this)
end
end Go.Ab
