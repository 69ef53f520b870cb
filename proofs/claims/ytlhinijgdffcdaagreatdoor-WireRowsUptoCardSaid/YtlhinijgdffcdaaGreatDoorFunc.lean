/- Functions: what the interpreter tells of a body, the machine does at a call. -/
import Derived.Test.YtlhinijgdffcdaaGreatDoorCode2
namespace Go.Ab
open Go
set_option linter.unusedVariables false
set_option linter.unusedSimpArgs false
def nodupB : List Nat → Bool
 | [] => true
 | k :: r => !r.contains k && nodupB r
def textOk (bef : Nat → List Nat) (P : Program) (f : FuncId) : Bool :=
 P.follows .mixedOrders && codeOk bef (bodyOf P f) && nodupB ((loopsOf (bodyOf P f)).map firstRegion) &&
 match P.funcs[f]? with
 | some fn => fn.name != "runtime.NumGoroutine" && fn.body.isSome
 | none => false
theorem find_own : ∀ {l : List Code} {b : Code}, nodupB (l.map firstRegion) = true → b ∈ l → findBody (firstRegion b) l = b
 | [], _, _, h => by cases h
 | x :: l, b, hn, h => by
  simp only [List.map_cons, nodupB, Bool.and_eq_true, Bool.not_eq_true'] at hn
  simp only [findBody]
  rcases List.mem_cons.1 h with rfl | h
  ·rw [if_pos rfl]
  ·rw [if_neg, find_own hn.2 h]
   intro he
   have : (l.map firstRegion).contains (firstRegion x) = true := by
    rw [List.contains_eq_mem, decide_eq_true_eq, he]
    exact List.mem_map.2 ⟨b, h, rfl⟩
   rw [hn.1] at this; cases this
theorem loops_sub : ∀ {c b x : Code}, b ∈ loopsOf c → x ∈ loopsOf b → x ∈ loopsOf c := by
 intro c
 induction c with
 | seq a b iha ihb =>
  intro y x hy hx
  simp only [loopsOf, List.mem_append] at hy ⊢
  rcases hy with hy | hy
  ·exact .inl (iha hy hx)
  ·exact .inr (ihb hy hx)
 | cond _ a b iha ihb =>
  intro y x hy hx
  simp only [loopsOf, List.mem_append] at hy ⊢
  rcases hy with hy | hy
  ·exact .inl (iha hy hx)
  ·exact .inr (ihb hy hx)
 | block _ a ih => intro y x hy hx; simp only [loopsOf] at hy ⊢; exact ih hy hx
 | scope a ih => intro y x hy hx; simp only [loopsOf] at hy ⊢; exact ih hy hx
 | loop a ih =>
  intro y x hy hx
  simp only [loopsOf, List.mem_cons] at hy ⊢
  rcases hy with rfl | hy
  ·exact .inr hx
  ·exact .inr (ih hy hx)
 | _ => intro y x hy hx; simp [loopsOf] at hy
theorem loops_ok {bef : Nat → List Nat} : ∀ {c b : Code}, codeOk bef c = true → b ∈ loopsOf c → codeOk bef b = true := by
 intro c
 induction c with
 | seq a b iha ihb =>
  intro y hc hy
  simp only [codeOk, Bool.and_eq_true] at hc
  simp only [loopsOf, List.mem_append] at hy
  rcases hy with hy | hy
  ·exact iha hc.1 hy
  ·exact ihb hc.2 hy
 | cond _ a b iha ihb =>
  intro y hc hy
  simp only [codeOk, Bool.and_eq_true] at hc
  simp only [loopsOf, List.mem_append] at hy
  rcases hy with hy | hy
  ·exact iha hc.1 hy
  ·exact ihb hc.2 hy
 | block _ a ih => intro y hc hy; simp only [loopsOf] at hy; exact ih (by simpa [codeOk] using hc) hy
 | scope a ih => intro y hc hy; simp only [loopsOf] at hy; exact ih (by simpa [codeOk] using hc) hy
 | loop a ih =>
  intro y hc hy
  simp only [loopsOf, List.mem_cons] at hy
  rcases hy with rfl | hy
  ·simpa [codeOk] using hc
  ·exact ih (by simpa [codeOk] using hc) hy
 | _ => intro y hc hy; simp [loopsOf] at hy
theorem findBody_mem (id : Nat) : ∀ (l : List Code), findBody id l ∈ l ∨ findBody id l = .skip
 | [] => .inr rfl
 | b :: r => by
  simp only [findBody]
  split
  ·exact .inl (by simp)
  ·rcases findBody_mem id r with h | h
   ·exact .inl (by simp [h])
   ·exact .inr h
theorem text_mixed {bef : Nat → List Nat} {P : Program} {f : FuncId} (h : textOk bef P f = true) : P.follows .mixedOrders = true := by
 unfold textOk at h
 simp only [Bool.and_eq_true] at h
 exact h.1.1.1
theorem text_loop {bef : Nat → List Nat} {P : Program} {f : FuncId} (h : textOk bef P f = true) (id : Nat) : codeOk bef (loopBody P f id) = true ∧ ∀ b ∈ loopsOf (loopBody P f id), loopBody P f (firstRegion b) = b := by
 unfold textOk at h
 simp only [Bool.and_eq_true] at h
 obtain ⟨⟨⟨_, h1⟩, h2⟩, _⟩ := h
 rcases findBody_mem id (loopsOf (bodyOf P f)) with hm | hm
 ·exact ⟨loops_ok h1 hm, fun b hb => find_own h2 (loops_sub hm hb)⟩
 ·constructor
  ·show codeOk bef (findBody id (loopsOf (bodyOf P f))) = true
   rw [hm]; rfl
  ·intro b hb
   change b ∈ loopsOf (findBody id (loopsOf (bodyOf P f))) at hb
   rw [hm] at hb; simp [loopsOf] at hb
section
variable {E : Env} {w0 : World} {own0 : Nat → Bool → Prop} {C : Ctx} {raw : FuncId → Bool} {st : St} {w : World} {tmps : Array Value}
def resM (tmps : Array Value) : ResultVar → Sem Value
 | .tmp t => pure (tmps.getD t undef)
 | .cell a t => do loadVar t (← asAddr (tmps.getD a undef))
theorem results_list (hR : RelSt E w0 own0 st [] tmps w) : ∀ (l : List ResultVar) (vs : List S), resultsS C st l = some vs →
  ∃ us, (l.mapM (resM tmps)).run C.P w = .ok us w ∧ RelVL E st.tb w vs us ∧ us.length = vs.length
 | [], vs, h => by
  simp only [resultsS, Option.some.injEq] at h; subst h
  exact ⟨[], rfl, rfl, rfl⟩
 | .tmp t :: r, vs, h => by
  simp only [resultsS, Option.map_eq_some_iff] at h
  obtain ⟨vs', h1, rfl⟩ := h
  obtain ⟨us, q1, q2, q3⟩ := results_list hR r vs' h1
  refine ⟨tmps.getD t undef :: us, ?_, ⟨_, us, rfl, hR.slot t, q2⟩, by simp [q3]⟩
  rw [List.mapM_cons]
  simp only [resM, Sem.run_bind, Sem.run_bind', Sem.run_pure, Result.andThen_ok, q1]
 | .cell a t :: r, vs, h => by
  simp only [resultsS] at h
  have hs := hR.slot a
  split at h <;> try contradiction
  rename_i k p hk
  rw [hk, relV_scalar rfl] at hs
  simp only [Rel] at hs
  cases he : st.tb k with
  | none => simp [he] at h
  | some ent =>
   rw [he] at hs
   simp only [he, Option.bind_some] at h
   obtain ⟨hp, b, f, hκ, hv⟩ := hs
   cases hge : getE ent p with
   | none => simp [hge] at h
   | some s =>
    simp only [hge, Option.bind_some] at h
    split at h <;> try contradiction
    rename_i hc
    rw [Bool.and_eq_true] at hc
    simp only [Option.map_eq_some_iff] at h
    obtain ⟨vs', h1, rfl⟩ := h
    obtain ⟨us, q1, q2, q3⟩ := results_list hR r vs' h1
    obtain ⟨b', f', ds, hκ', hl, hr, hkk⟩ := getE_rel hp (hR.ent k ent he) hge
    rw [hκ] at hκ'; cases hκ'
    obtain ⟨v, hrv, hvv⟩ := run_loadVar hl hr hc.1 hc.2
    have hv := (List.cons.inj hv).1
    refine ⟨v :: us, ?_, ⟨_, us, rfl, hvv, q2⟩, by simp [q3]⟩
    rw [List.mapM_cons]
    simp only [resM, asAddr, hv, Sem.run_bind, Sem.run_bind', Sem.run_pure, Result.andThen_ok, hrv, q1]
theorem results_one (hR : RelSt E w0 own0 st [] tmps w) {fn : Func} {vs : List S} (h : resultsS C st fn.results.toList = some vs) :
  ∃ rv, (results fn tmps).run C.P w = .ok rv w ∧ RelV E st.tb w (oneOf vs) rv := by
 obtain ⟨us, h1, h2, h3⟩ := results_list hR _ vs h
 have hm : (fn.results.mapM (resM tmps)).run C.P w = .ok us.toArray w := by
  generalize fn.results = l at h1
  obtain ⟨l⟩ := l
  rw [List.mapM_toArray]
  simp only [Sem.run_map]
  rw [h1]
  simp
 have hun : (results fn tmps).run C.P w = .ok (if h : us.toArray.size = 1 then us.toArray[0] else .tuple us.toArray) w := by
  have e : results fn tmps = (do let vs ← fn.results.mapM (resM tmps); pure (if h : vs.size = 1 then vs[0] else .tuple vs)) := by
   unfold results
   congr 1
  rw [e]
  simp only [Sem.run_bind, Sem.run_bind', hm, Result.andThen_ok, Sem.run_pure]
 refine ⟨_, hun, ?_⟩
 match vs, us, h2, h3 with
 | [v], [u], h2, _ =>
  obtain ⟨x, q, hx, hv, _⟩ := h2
  simp only [List.cons.injEq] at hx
  obtain ⟨rfl, _⟩ := hx
  exact hv
 | [], [], h2, _ => exact (relV_scalar rfl).2 ⟨[], rfl, rfl⟩
 | v1 :: v2 :: vs, u1 :: u2 :: us, h2, _ =>
  rw [dif_neg (by simp)]
  exact (relV_scalar rfl).2 ⟨_, rfl, h2⟩
end
end Go.Ab
