/- Functions as a whole. -/
import Derived.Test.YtlhinijgdffcdaaGreatDoorFunc
namespace Go.Ab
open Go
set_option linter.unusedVariables false
set_option linter.unusedSimpArgs false
theorem relVL_get {E : Env} {tb : Tbl} {w : World} : ∀ {l : List S} {vs : List Value}, RelVL E tb w l vs → l.length = vs.length ∧ ∀ (i : Nat) s, l[i]? = some s → ∃ v, vs[i]? = some v ∧ RelV E tb w s v
 | [], vs, h => by cases h; exact ⟨rfl, by simp⟩
 | f :: r, vs, h => by
  obtain ⟨v, q, rfl, h1, h2⟩ := h
  obtain ⟨q1, q2⟩ := relVL_get h2
  refine ⟨by simp [q1], fun i s hs => ?_⟩
  cases i with
  | zero =>
   simp only [List.getElem?_cons_zero, Option.some.injEq] at hs
   subst hs
   exact ⟨v, rfl, h1⟩
  | succ i =>
   rw [List.getElem?_cons_succ] at hs
   obtain ⟨u, r1, r2⟩ := q2 i s hs
   exact ⟨u, by simpa using r1, r2⟩
theorem npOf_le : ∀ (es : List Ent), npOf es ≤ es.length
 | [] => Nat.le_refl _
 | e :: r => by
  simp only [npOf]
  have := npOf_le r
  split <;> simp <;> omega
theorem npF_le (raw : FuncId → Bool) (f : FuncId) (es : List Ent) : npF raw f es ≤ es.length := by
 unfold npF; split
 ·exact Nat.le_refl _
 ·exact npOf_le es
section
variable {E : Env} {w0 : World} {own0 : Nat → Bool → Prop} {C : Ctx} {raw : FuncId → Bool} {w : World}
theorem FnIn.start {args : List S} {es : List Ent} {vs : List Value} (h : FnIn E w args es vs) (n np : Nat) (hlen : n = n) :
  RelSt E w (ownsB E es) ⟨args ++ List.replicate (n - args.length) .junk, tbOf es, 1, np⟩ [] (vs.toArray ++ Array.replicate (n - vs.toArray.size) undef) w := by
 obtain ⟨h1, h2, h3, h4, h5, h6, h7, h8⟩ := h
 obtain ⟨q1, q2⟩ := relVL_get h1
 refine ⟨?_, ?_, h2, h3, ⟨rfl, rfl, rfl, Nat.le_refl _, fun _ _ _ => rfl, fun _ _ h => h, fun _ _ _ h => h⟩, ?_, ?_, ?_, ?_, ?_, h6, h7⟩
 ·simp [q1]
 ·intro i
  by_cases hi : i < args.length
  ·obtain ⟨v, r1, r2⟩ := q2 i args[i] (List.getElem?_eq_getElem hi)
   have e1 : (args ++ List.replicate (n - args.length) S.junk).getD i .junk = args[i] := by
    rw [List.getD_eq_getElem?_getD, List.getElem?_append_left hi, List.getElem?_eq_getElem hi]; rfl
   have e2 : (vs.toArray ++ Array.replicate (n - vs.toArray.size) undef).getD i undef = v := by
    rw [Array.getD_eq_getD_getElem?, Array.getElem?_append_left (by simpa [← q1] using hi)]
    simp [r1]
   show RelV E (tbOf es) w ((args ++ List.replicate (n - args.length) S.junk).getD i .junk) _
   rw [e1, e2]; exact r2
  ·have e1 : (args ++ List.replicate (n - args.length) S.junk).getD i .junk = .junk := by
    rw [List.getD_eq_getElem?_getD, List.getElem?_append_right (by omega), List.getElem?_replicate]
    split <;> rfl
   show RelV E (tbOf es) w ((args ++ List.replicate (n - args.length) S.junk).getD i .junk) _
   rw [e1, relV_scalar rfl]; exact ⟨_, rfl⟩
 ·intro k p e hp he
  exact .inr ⟨k, p, e, hp, he, rfl, id⟩
 ·rintro b f ⟨k, p, e, r1, r2, r3, r4⟩
  exact ⟨k, p, e, r1, r2, r3, fun h => by cases h⟩
 ·intro i k hk
  left
  have : k ∈ keysOfL args := by
   change k ∈ keysOf ((args ++ List.replicate (n - args.length) S.junk).getD i .junk) at hk
   rw [List.getD_eq_getElem?_getD] at hk
   by_cases hi : i < args.length
   ·rw [List.getElem?_append_left hi, List.getElem?_eq_getElem hi] at hk
    exact keysL_mem (List.getElem_mem hi) k hk
   ·rw [List.getElem?_append_right (by omega), List.getElem?_replicate] at hk
    split at hk <;> simp [keysOf] at hk
  have := h4 k this
  show k < 1 * 262144
  omega
 ·intro k e he
  left
  have : k < es.length := (List.getElem?_eq_some_iff.1 he).1
  show k < 1 * 262144
  omega
 ·intro k e he j hj
  left
  have := h5 k e he j hj
  show j < 1 * 262144
  omega
theorem enter_of {P : Program} {f : FuncId} {fn : Func} (hf : P.funcs[f]? = some fn) (hn : (fn.name != "runtime.NumGoroutine") = true) (hb : fn.body.isSome = true) (as : Array Value) (w : World) : (callFunc f as).run P w = .ok (.enter f as) w := by
 have h1 : (fn.name == "runtime.NumGoroutine") = false := by
  rw [bne, Bool.not_eq_true'] at hn; exact hn
 have h2 : fn.body.isNone = false := by
  cases hq : fn.body with
  | none => rw [hq] at hb; cases hb
  | some c => rfl
 unfold callFunc
 have hp : (program : Sem Program).run P w = .ok P w := rfl
 simp only [Sem.run_bind, Sem.run_bind', hp, Result.andThen_ok, hf, h1, h2, Bool.false_eq_true, if_false, Sem.run_pure]
theorem run_good {R : Type} {cf : CallF R} {lf : LoopF R} {f : FuncId} {args : List S} {es : List Ent} {K : S → List Ent → Option R} {r : R} (ht : textOk C.bef C.P f = true) (hcf : CfOk C.P C.glob raw cf) (hlf : LfOk C f lf)
  (h : runK C raw cf lf f args es K = some r) : ∃ v es', FnOk C.P C.glob f (npF raw f es) args es v es' ∧ K v es' = some r := by
 unfold textOk at ht
 simp only [Bool.and_eq_true] at ht
 obtain ⟨⟨⟨hm, ht1⟩, ht2⟩, ht3⟩ := ht
 unfold runK at h
 simp only at h
 split at h <;> try contradiction
 rename_i fn hfn
 rw [hfn] at ht3
 simp only [Bool.and_eq_true] at ht3
 split at h <;> try contradiction
 rename_i c hc
 have hbody : bodyOf C.P f = c := by unfold bodyOf; rw [hfn]; simp [hc]
 rw [hbody] at ht1 ht2
 obtain ⟨o, st', h1, h2⟩ := code_good hm hcf hlf c _ _ _ ht1 (fun b hb => by unfold loopBody; rw [hbody]; exact find_own ht2 hb) h
 have hnorm : o = .norm ∨ o = .ret := by
  cases o with
  | norm => exact .inl rfl
  | ret => exact .inr rfl
  | exit j => simp at h1
 have h1 : (match resultsS C st' fn.results.toList with
   | some vs =>
    iteH (decide ((reach st'.tb 4 (addAll (List.range st'.np) (keysOfL vs))).length < 63))
     (match entsOf st'.tb (sendK (reach st'.tb 4 (addAll (List.range st'.np) (keysOfL vs)))) (reach st'.tb 4 (addAll (List.range st'.np) (keysOfL vs))) with
     | some es' => K (ren (sendK (reach st'.tb 4 (addAll (List.range st'.np) (keysOfL vs)))) (oneOf vs)) es'
     | none => none)
     none
   | none => none) = some r := by
  rcases hnorm with rfl | rfl <;> exact h1
 split at h1 <;> try contradiction
 rename_i vs hvs
 obtain ⟨hlen, h1⟩ := iteH_some h1
 rw [decide_eq_true_eq] at hlen
 split at h1 <;> try contradiction
 rename_i es' hes
 refine ⟨_, es', ⟨fun as w => enter_of hfn ht3.1 ht3.2 as w, ?_⟩, h1⟩
 intro E w us hgl hin
 refine calls_of_wp hfn hc ?_
 have hR := hin.start fn.ntmps (npF raw f es) rfl
 have hnp : npF raw f es < 64 := by have := npF_le raw f es; have := hin.len; omega
 refine Code.wp_mono' (h2 (Nat.le_refl _) hnp E w _ { tmps := us.toArray ++ Array.replicate (fn.ntmps - us.toArray.size) undef, defers := [] } w hgl hR) ?_
 rintro e a' w' ⟨rfl, ⟨E1, q1, q2⟩, q3, q4, q5, q6⟩
 obtain ⟨rv, r1, r2⟩ := results_one q1 hvs
 have q5 : st'.np = npF raw f es := q5
 obtain ⟨k1, k2⟩ := ks_pins (tb := st'.tb) (np := st'.np) (l := keysOfL vs) rfl
 obtain ⟨E2, s1, s2, s3, s4⟩ := keep_place (ps := []) (sl := List.replicate st'.sl.length .junk) q1 k1 k2 hlen hes (by simp) (fun i => by
  left; rw [List.getD_eq_getElem?_getD, List.getElem?_replicate]; split <;> rfl)
 rw [freezeAt_nil] at s1 s2 s4
 have hpost : a'.defers = [] ∧ ∃ v, (results fn a'.tmps).run C.P w' = .ok v w' ∧ (fun (en : Ending) w'' => ∃ rv E', en = .returned rv ∧ FnOut E w es (npF raw f es) E' w'' es' (ren (sendK (reach st'.tb 4 (addAll (List.range st'.np) (keysOfL vs)))) (oneOf vs)) rv) (.returned v) w' := by
  refine ⟨q3, rv, r1, rv, E2, rfl, ?_⟩
  have hl : Later (npF raw f es) E (tbOf es) E2 (tbOf es') := by rw [q5] at s2; exact q2.trans s2
  exact ⟨s4 r2, s1.ent, s1.inj, hl.av, hl.gl, hl.pin, hl.form, s1.hist, s1.own⟩
 rcases hnorm with rfl | rfl
 ·exact hpost
 ·exact hpost
end
end Go.Ab
