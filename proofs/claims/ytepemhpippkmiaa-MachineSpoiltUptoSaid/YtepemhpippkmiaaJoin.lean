/- A body that is run piece by piece: what stands behind a cut is told once, of what lives on there. -/
import Derived.Test.YtepemhpippkmiaaFunc2
namespace Go.Ab
open Go
set_option linter.unusedVariables false
set_option linter.unusedSimpArgs false

/-- so many pieces, then a cut -/
noncomputable def spineK {R : Type} (C : Ctx) (raw : FuncId → Bool) (cf : CallF R) (lf : LoopF R) : Nat → Code → St → (St → Option R) → (Out → St → Option R) → Option R
  | 0, _, st, J, _ => J st
  | n + 1, .seq x y, st, J, K => acodeK C raw cf lf x st fun o st' =>
    match o with
    | .norm => spineK C raw cf lf n y st' J K
    | o => K o st'
  | _, _, _, _, _ => none
def restC : Nat → Code → Code
  | 0, c => c
  | n + 1, .seq _ y => restC n y
  | _, c => c
/-- what lives on at a cut -/
def cutJ {R : Type} (m np : Nat) (live : List Nat) (jf : List S → List Ent → Option R) (st : St) : Option R :=
  let _ := z160
  iteH (decide (st.sl.length = m) && decide (st.np = np))
    (match takeF live [] st with
    | some r => jf r.1 r.2
    | none => none) none
/-- what stands behind a body -/
def runFin {R : Type} (C : Ctx) (res : List ResultVar) (K : S → List Ent → Option R) : Out → St → Option R := fun o st =>
  let _ := z160
  match o with
  | .exit _ => none
  | _ =>
    match resultsS C st res with
    | some vs =>
      let ks := reach st.tb 4 (addAll (List.range st.np) (keysOfL vs))
      iteH (decide (ks.length < 63))
        (match entsOf st.tb (sendK ks) ks with
        | some es' => K (ren (sendK ks) (oneOf vs)) es'
        | none => none)
        none
    | none => none

def Good {R : Type} (C : Ctx) (c : Code) (st : St) (K : Out → St → Option R) (r : R) : Prop := ∃ o st', K o st' = some r ∧ CodeDoes C.P C.glob st c o st'

section
variable {C : Ctx} {raw : FuncId → Bool}

theorem good_seq {R : Type} {x y : Code} {st : St} {K : Out → St → Option R} {J : St → Option R} {r : R} (h : Good C x st (fun o st' => match o with | .norm => J st' | o => K o st') r) (hy : ∀ st', J st' = some r → Good C y st' K r) : Good C (.seq x y) st K r := by
  obtain ⟨o, st', h1, h2⟩ := h
  cases o with
  | norm =>
    obtain ⟨o2, st2, h3, h4⟩ := hy st' h1
    refine ⟨o2, st2, h3, fun hep hnp E w0 own0 a w hgl hR => wp_seq ?_⟩
    refine Code.wp_mono' (h2 hep hnp E w0 own0 a w hgl hR) ?_
    rintro e a' w' ⟨rfl, ⟨E', q1, q2⟩, q3, q4, q5, q6⟩
    show y.wp _ _ _ _
    refine Code.wp_mono' (h4 q4 (by omega) E' w0 own0 a' w' (q2.gl.trans hgl) q1) ?_
    rintro e a'' w'' ⟨rfl, hk⟩
    exact ⟨rfl, hk.trans q2 q3 q5 q6⟩
  | exit j =>
    refine ⟨.exit j, st', h1, fun hep hnp E w0 own0 a w hgl hR => wp_seq ?_⟩
    refine Code.wp_mono' (h2 hep hnp E w0 own0 a w hgl hR) ?_
    rintro e a' w' ⟨rfl, hk⟩
    exact ⟨rfl, hk⟩
  | ret =>
    refine ⟨.ret, st', h1, fun hep hnp E w0 own0 a w hgl hR => wp_seq ?_⟩
    refine Code.wp_mono' (h2 hep hnp E w0 own0 a w hgl hR) ?_
    rintro e a' w' ⟨rfl, hk⟩
    exact ⟨rfl, hk⟩

theorem good_code {R : Type} {cf : CallF R} {lf : LoopF R} {f : FuncId} (hm : C.P.follows .mixedOrders = true) (hcf : CfOk C.P C.glob raw cf) (hlf : LfOk C f lf) {c : Code} {st : St} {K : Out → St → Option R} {r : R} (hc : codeOk C.bef c = true) (hl : ∀ b ∈ loopsOf c, loopBody C.P f (firstRegion b) = b)
    (h : acodeK C raw cf lf c st K = some r) : Good C c st K r := code_good hm hcf hlf c st K r hc hl h

theorem good_spine {R : Type} {cf : CallF R} {lf : LoopF R} {f : FuncId} (hm : C.P.follows .mixedOrders = true) (hcf : CfOk C.P C.glob raw cf) (hlf : LfOk C f lf) {K : Out → St → Option R} {J : St → Option R} {r : R} :
    ∀ (n : Nat) (c : Code) (st : St), codeOk C.bef c = true → (∀ b ∈ loopsOf c, loopBody C.P f (firstRegion b) = b) → spineK C raw cf lf n c st J K = some r → (∀ st', J st' = some r → Good C (restC n c) st' K r) → Good C c st K r
  | 0, c, st, hc, hl, h, hJ => by
    simp only [spineK] at h
    exact hJ st h
  | n + 1, .seq x y, st, hc, hl, h, hJ => by
    simp only [codeOk, Bool.and_eq_true] at hc
    simp only [spineK] at h
    refine good_seq (J := fun st' => spineK C raw cf lf n y st' J K) (good_code hm hcf hlf hc.1 (fun b hb => hl b (by simp [loopsOf, hb])) h) fun st' h' => ?_
    exact good_spine hm hcf hlf n y st' hc.2 (fun b hb => hl b (by simp [loopsOf, hb])) h' hJ
  | n + 1, .skip, _, _, _, h, _ | n + 1, .region .., _, _, _, h, _ | n + 1, .cond .., _, _, _, h, _ | n + 1, .block .., _, _, _, h, _ | n + 1, .loop _, _, _, _, h, _ | n + 1, .rangeFunc .., _, _, _, h, _
  | n + 1, .exit _, _, _, _, h, _ | n + 1, .scope _, _, _, _, h, _ | n + 1, .label _, _, _, _, h, _ | n + 1, .goto _, _, _, _, h, _ | n + 1, .ret, _, _, _, h, _ | n + 1, .refuse _, _, _, _, h, _ => by simp [spineK] at h

theorem good_cut {R : Type} {y : Code} {K : Out → St → Option R} {r : R} {m np : Nat} {live : List Nat} {jf : List S → List Ent → Option R} {st : St} (h : cutJ m np live jf st = some r) (hy : ∀ vs es, jf vs es = some r → Good C y (placeSt m np live vs es) K r) : Good C y st K r := by
  unfold cutJ at h
  simp only at h
  obtain ⟨h1, h2⟩ := iteH_some h
  rw [Bool.and_eq_true, decide_eq_true_eq, decide_eq_true_eq] at h1
  obtain ⟨rfl, rfl⟩ := h1
  split at h2 <;> try contradiction
  rename_i r0 h0
  obtain ⟨o, st', h3, h4⟩ := hy _ _ h2
  refine ⟨o, st', h3, fun hep hnp E w0 own0 a w hgl hR => ?_⟩
  obtain ⟨E', q1, q2⟩ := take_place hR h0
  refine Code.wp_mono' (h4 (Nat.le_refl _) hnp E' w0 own0 a w (q2.gl.trans hgl) q1) ?_
  rintro e a' w' ⟨rfl, hk⟩
  exact ⟨rfl, Kept.trans (st' := placeSt st.sl.length st.np live r0.1 r0.2) (E' := E') (a' := a) q2 rfl rfl (by simp [placeSt, placeL_len]) hk⟩

theorem run_good_of {R : Type} {f : FuncId} {args : List S} {es : List Ent} {K : S → List Ent → Option R} {r : R} {fn : Func} (ht : textOk C.bef C.P f = true) (hfn : C.P.funcs[f]? = some fn)
    (h : Good C (bodyOf C.P f) ⟨args ++ List.replicate (fn.ntmps - args.length) .junk, tbOf es, 1, npF raw f es⟩ (runFin C fn.results.toList K) r) : ∃ v es', FnOk C.P C.glob f (npF raw f es) args es v es' ∧ K v es' = some r := by
  unfold textOk at ht
  simp only [Bool.and_eq_true] at ht
  obtain ⟨⟨⟨hm, ht1⟩, ht2⟩, ht3⟩ := ht
  rw [hfn] at ht3
  simp only [Bool.and_eq_true] at ht3
  obtain ⟨c, hc⟩ := Option.isSome_iff_exists.1 ht3.2
  have hbody : bodyOf C.P f = c := by unfold bodyOf; rw [hfn]; simp [hc]
  rw [hbody] at h
  obtain ⟨o, st', h1, h2⟩ := h
  have hnorm : o = .norm ∨ o = .ret := by
    cases o with
    | norm => exact .inl rfl
    | ret => exact .inr rfl
    | exit j => simp [runFin] at h1
  have h1 : (match resultsS C st' fn.results.toList with
      | some vs =>
        iteH (decide ((reach st'.tb 4 (addAll (List.range st'.np) (keysOfL vs))).length < 63))
          (match entsOf st'.tb (sendK (reach st'.tb 4 (addAll (List.range st'.np) (keysOfL vs)))) (reach st'.tb 4 (addAll (List.range st'.np) (keysOfL vs))) with
          | some es' => K (ren (sendK (reach st'.tb 4 (addAll (List.range st'.np) (keysOfL vs)))) (oneOf vs)) es'
          | none => none)
          none
      | none => none) = some r := by
    rcases hnorm with rfl | rfl <;> exact h1
  split at h1 <;> try contradiction
  rename_i vs hvs
  obtain ⟨hlen, h1⟩ := iteH_some h1
  rw [decide_eq_true_eq] at hlen
  split at h1 <;> try contradiction
  rename_i es' hes
  refine ⟨_, es', ⟨fun as w => enter_of hfn ht3.1 ht3.2 as w, ?_⟩, h1⟩
  intro E w us hgl hin
  refine calls_of_wp hfn hc ?_
  have hR := hin.start fn.ntmps (npF raw f es) rfl
  have hnp : npF raw f es < 64 := by have := npF_le raw f es; have := hin.len; omega
  refine Code.wp_mono' (h2 (Nat.le_refl _) hnp E w _ { tmps := us.toArray ++ Array.replicate (fn.ntmps - us.toArray.size) undef, defers := [] } w hgl hR) ?_
  rintro e a' w' ⟨rfl, ⟨E1, q1, q2⟩, q3, q4, q5, q6⟩
  obtain ⟨rv, r1, r2⟩ := results_one q1 hvs
  have q5 : st'.np = npF raw f es := q5
  obtain ⟨k1, k2⟩ := ks_pins (tb := st'.tb) (np := st'.np) (l := keysOfL vs) rfl
  obtain ⟨E2, s1, s2, s3, s4⟩ := keep_place (ps := []) (sl := List.replicate st'.sl.length .junk) q1 k1 k2 hlen hes (by simp) (fun i => by
    left; rw [List.getD_eq_getElem?_getD, List.getElem?_replicate]; split <;> rfl)
  rw [freezeAt_nil] at s1 s2 s4
  have hpost : a'.defers = [] ∧ ∃ v, (results fn a'.tmps).run C.P w' = .ok v w' ∧ (fun (en : Ending) w'' => ∃ rv E', en = .returned rv ∧ FnOut E w es (npF raw f es) E' w'' es' (ren (sendK (reach st'.tb 4 (addAll (List.range st'.np) (keysOfL vs)))) (oneOf vs)) rv) (.returned v) w' := by
    refine ⟨q3, rv, r1, rv, E2, rfl, ?_⟩
    have hl : Later (npF raw f es) E (tbOf es) E2 (tbOf es') := by rw [q5] at s2; exact q2.trans s2
    exact ⟨s4 r2, s1.ent, s1.inj, hl.av, hl.gl, hl.pin, hl.form, s1.hist, s1.own⟩
  rcases hnorm with rfl | rfl
  · exact hpost
  · exact hpost
end
end Go.Ab
