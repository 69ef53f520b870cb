/- Code: what the interpreter tells, the machine does. -/
import Derived.Test.YtlhinijgdffcdaaGreatDoorCode1
namespace Go.Ab
open Go
set_option linter.unusedVariables false
set_option linter.unusedSimpArgs false
def outE : Out → Exit
 | .norm => .normal
 | .exit id => .exit id
 | .ret => .ret
structure Kept (E : Env) (w0 : World) (own0 : Nat → Bool → Prop) (st : St) (a : Act) (st' : St) (a' : Act) (w' : World) : Prop where
 ex : ∃ E', RelSt E' w0 own0 st' [] a'.tmps w' ∧ Later st.np E st.tb E' st'.tb
 defers : a'.defers = a.defers
 ep : 1 ≤ st'.ep
 np : st'.np = st.np
 len : st'.sl.length = st.sl.length
theorem Kept.refl {E : Env} {w0 : World} {own0 : Nat → Bool → Prop} {st : St} {a : Act} {w : World} (hep : 1 ≤ st.ep) (h : RelSt E w0 own0 st [] a.tmps w) : Kept E w0 own0 st a st a w :=
 ⟨⟨E, h, Later.refl⟩, rfl, hep, rfl, rfl⟩
def CodeDoes (P : Program) (gl : Nat → Option S) (st : St) (c : Code) (o : Out) (st' : St) : Prop :=
 1 ≤ st.ep → st.np < 64 → ∀ (E : Env) (w0 : World) (own0 : Nat → Bool → Prop) (a : Act) (w : World), E.gl = gl → RelSt E w0 own0 st [] a.tmps w →
  c.wp P (fun e a' w' => e = outE o ∧ Kept E w0 own0 st a st' a' w') a w
def LoopWp (P : Program) (c : Code) (Q : Exit → Act → World → Prop) (a : Act) (w : World) : Prop :=
 ∀ (b : Frame) (k : List Item) (cs : List Frame), ∃ e a' w', Q e a' w' ∧ Arrives P (lone (b.at a (.code c :: .inLoop c :: k)) cs w) b k cs e a' w'
theorem LoopWp.loop {P : Program} {c : Code} {Q : Exit → Act → World → Prop} {a : Act} {w : World} (h : LoopWp P c Q a w) : (Code.loop c).wp P Q a w := by
 intro b k cs
 obtain ⟨e, a', w', hq, harr⟩ := h b k cs
 exact ⟨e, a', w', hq, .of_steps (.one step_loop) harr⟩
theorem LoopWp.step {P : Program} {c : Code} {Q : Exit → Act → World → Prop} {a : Act} {w : World} (h : c.wp P (Exit.then (LoopWp P c Q) Q) a w) : LoopWp P c Q a w := by
 intro b k cs
 obtain ⟨e, a₁, w₁, hq, harr⟩ := h b (.inLoop c :: k) cs
 cases e with
 | normal =>
  obtain ⟨e₂, a₂, w₂, hq₂, harr₂⟩ := hq b k cs
  exact ⟨e₂, a₂, w₂, hq₂, .of_steps (Steps.trans harr (.one step_inLoop)) harr₂⟩
 | exit id => exact ⟨_, a₁, w₁, hq, .pass (x := .inLoop c) rfl (fun _ _ => .inl (by simp)) harr⟩
 | goto l => exact ⟨_, a₁, w₁, hq, .pass (x := .inLoop c) rfl (fun _ _ => .inl (by simp)) harr⟩
 | ret => exact ⟨_, a₁, w₁, hq, .pass (x := .inLoop c) rfl (fun _ _ => .inl (by simp)) harr⟩
 | panic ch => exact ⟨_, a₁, w₁, hq, .pass (x := .inLoop c) rfl (fun _ _ => .inl (by simp)) harr⟩
 | outgrown => exact ⟨_, a₁, w₁, hq, .pass (x := .inLoop c) rfl (fun _ _ => .inl (by simp)) harr⟩
theorem LoopWp.mono {P : Program} {c : Code} {Q Q' : Exit → Act → World → Prop} {a : Act} {w : World} (hq : ∀ e a w, Q e a w → Q' e a w) (h : LoopWp P c Q a w) : LoopWp P c Q' a w :=
 fun b k cs => let ⟨e, a', w', q, arr⟩ := h b k cs; ⟨e, a', w', hq _ _ _ q, arr⟩
def LoopDoes (P : Program) (gl : Nat → Option S) (st : St) (c : Code) (o : Out) (st' : St) : Prop :=
 1 ≤ st.ep → st.np < 64 → ∀ (E : Env) (w0 : World) (own0 : Nat → Bool → Prop) (a : Act) (w : World), E.gl = gl → RelSt E w0 own0 st [] a.tmps w →
  LoopWp P c (fun e a' w' => e = outE o ∧ Kept E w0 own0 st a st' a' w') a w
def LfOk {R : Type} (C : Ctx) (f : FuncId) (lf : LoopF R) : Prop :=
 ∀ m np id vs es K r, lf m np id (loopBody C.P f id) vs es K = some r →
  ∃ o vs' es', LoopDoes C.P C.glob (placeSt m np (C.live id) vs es) (loopBody C.P f id) o (placeSt m np (C.out id) vs' es') ∧ K o vs' es' = some r
section
variable {E : Env} {w0 : World} {own0 : Nat → Bool → Prop} {C : Ctx} {raw : FuncId → Bool} {st st' st'' : St} {a a' a'' : Act} {w w' w'' : World}
theorem Kept.trans {E' : Env} (hl : Later st.np E st.tb E' st'.tb) (hd : a'.defers = a.defers) (hnp : st'.np = st.np) (hlen : st'.sl.length = st.sl.length) (h : Kept E' w0 own0 st' a' st'' a'' w'') : Kept E w0 own0 st a st'' a'' w'' := by
 obtain ⟨⟨E2, h1, h2⟩, h3, h4, h5, h6⟩ := h
 rw [hnp] at h2
 exact ⟨⟨E2, h1, hl.trans h2⟩, h3.trans hd, h4, h5.trans hnp, h6.trans hlen⟩
theorem region_does {id : Nat} {ops : Array Oper} {draw : Bool} {ocs : List Oc} {rs : List Rec} (hp : Path C raw ops draw ops.toList 0 st [] ocs st' rs) (hc : codeOk C.bef (.region id ops draw) = true)
  (hm : C.P.follows .mixedOrders = true) (hd : draw = true → drawOk (C.bef id) rs = true) : CodeDoes C.P C.glob st (.region id ops draw) .norm ⟨st'.sl, st'.tb, st'.ep + 1, st'.np⟩ := by
 intro hep hnp E w0 own0 a w hgl hR
 obtain ⟨hlen, hend, hfacts⟩ := path_facts hp
 have hsz : st'.sl.length = st.sl.length := by rw [← hend, foldSt_len]
 have hep' : st'.ep = st.ep := by rw [← hend, foldSt_ep]
 have hnp' : st'.np = st.np := by rw [← hend, foldSt_np]
 have fin : ∀ (E' : Env) (a' : Act) (w' : World) (D' : List Nat), RelSt E' w0 own0 st' D' a'.tmps w' → (∀ d ∈ D', d < 4096) → a'.defers = a.defers → Later st.np E st.tb E' st'.tb →
   Kept E w0 own0 st a ⟨st'.sl, st'.tb, st'.ep + 1, st'.np⟩ a' w' := by
  intro E' a' w' D' h1 h2 h3 h4
  exact ⟨⟨E', h1.next h2, h4⟩, h3, by show 1 ≤ st'.ep + 1; omega, hnp', hsz⟩
 cases draw with
 | false =>
  refine wp_region ?_
  have := seq_good hp (by simp) hgl hR (by simp) hep hnp (fun e a' w' => e = outE .norm ∧ Kept E w0 own0 st a ⟨st'.sl, st'.tb, st'.ep + 1, st'.np⟩ a' w')
   (fun E' a' w' D' h1 h2 h3 h4 _ _ _ => ⟨rfl, fin E' a' w' D' h1 h2 h3 h4⟩)
  simpa using this
 | true =>
  simp only [codeOk, Bool.not_true, Bool.false_or, Bool.and_eq_true] at hc
  obtain ⟨⟨hc1, hc2⟩, hc3⟩ := hc
  have H : Drawn C raw ops (C.bef id) st rs ocs := ⟨hc1, hc2, hc3, hd rfl, fun j o hj => by have := hfacts j o hj; simpa using this⟩
  refine wp_region_draw fun t => ?_
  unfold Region.schedule
  rw [hm, Bool.true_or, if_pos rfl]
  refine wpAny_sound ops.size t _ a _ ?_
  have h0 : ∀ (i : Nat), (Array.replicate ops.size false).getD i false = false := by
   intro i
   rw [Array.getD_eq_getD_getElem?, Array.getElem?_replicate]; split <;> rfl
  have hf0 : foldSt ops.toList ocs (fun i => (Array.replicate ops.size false).getD i false) st ops.toList.length = st := by
   rw [fold_stop 0 ops.toList.length (fun i _ _ => h0 i) (Nat.zero_le _)]; rfl
  refine H.walk hend hgl hep hnp (a := a) (Q := fun e a' w' => e = outE .norm ∧ Kept E w0 own0 st a ⟨st'.sl, st'.tb, st'.ep + 1, st'.np⟩ a' w')
   (fun E' a' w' D' h1 h2 h3 h4 => ⟨rfl, fin E' a' w' D' h1 h2 h3 h4⟩) ops.size _ E [] a _ (by simp) ?_ ?_ (by simp) rfl ?_ ?_
  ·intro j hj
   have hj' : (Array.replicate ops.size false).getD j false = true := hj
   rw [h0 j] at hj'; cases hj'
  ·rw [hf0]; exact hR.drawn
  ·rw [hf0]; exact Later.refl
  ·simp
theorem Code.wp_mono' {P : Program} {c : Code} {Q Q' : Exit → Act → World → Prop} {a : Act} {w : World} (h : c.wp P Q a w) (hq : ∀ e a w, Q e a w → Q' e a w) : c.wp P Q' a w :=
 fun b k cs => let ⟨e, a', w', q, arr⟩ := h b k cs; ⟨e, a', w', hq _ _ _ q, arr⟩
theorem code_good {R : Type} {cf : CallF R} {lf : LoopF R} {f : FuncId} (hm : C.P.follows .mixedOrders = true) (hcf : CfOk C.P C.glob raw cf) (hlf : LfOk C f lf) :
  ∀ (c : Code) (st : St) (K : Out → St → Option R) (r : R), codeOk C.bef c = true → (∀ b ∈ loopsOf c, loopBody C.P f (firstRegion b) = b) → acodeK C raw cf lf c st K = some r →
   ∃ o st', K o st' = some r ∧ CodeDoes C.P C.glob st c o st' := by
 intro c
 induction c with
 | skip =>
  intro st K r hc hl h
  exact ⟨.norm, st, h, fun hep hnp E w0 own0 a w hgl hR => wp_skip ⟨rfl, .refl hep hR⟩⟩
 | label l =>
  intro st K r hc hl h
  exact ⟨.norm, st, h, fun hep hnp E w0 own0 a w hgl hR => wp_label ⟨rfl, .refl hep hR⟩⟩
 | region id ops draw =>
  intro st K r hc hl h
  simp only [acodeK] at h
  obtain ⟨ocs, st', rs, hp, hK⟩ := aopsK_path hcf _ _ _ _ h
  obtain ⟨h1, h2⟩ := iteH_some hK
  refine ⟨.norm, _, h2, region_does hp hc hm ?_⟩
  intro hd
  rw [hd] at h1
  simpa using h1
 | seq x y ihx ihy =>
  intro st K r hc hl h
  simp only [codeOk, Bool.and_eq_true] at hc
  simp only [acodeK] at h
  obtain ⟨o, st', h1, h2⟩ := ihx st _ r hc.1 (fun b hb => hl b (by simp [loopsOf, hb])) h
  cases o with
  | norm =>
   obtain ⟨o2, st2, h3, h4⟩ := ihy st' K r hc.2 (fun b hb => hl b (by simp [loopsOf, hb])) h1
   refine ⟨o2, st2, h3, fun hep hnp E w0 own0 a w hgl hR => wp_seq ?_⟩
   refine Code.wp_mono' (h2 hep hnp E w0 own0 a w hgl hR) ?_
   rintro e a' w' ⟨rfl, ⟨E', q1, q2⟩, q3, q4, q5, q6⟩
   show y.wp _ _ _ _
   refine Code.wp_mono' (h4 q4 (by omega) E' w0 own0 a' w' (q2.gl.trans hgl) q1) ?_
   rintro e a'' w'' ⟨rfl, hk⟩
   exact ⟨rfl, hk.trans q2 q3 q5 q6⟩
  | exit j =>
   refine ⟨.exit j, st', h1, fun hep hnp E w0 own0 a w hgl hR => wp_seq ?_⟩
   refine Code.wp_mono' (h2 hep hnp E w0 own0 a w hgl hR) ?_
   rintro e a' w' ⟨rfl, hk⟩
   exact ⟨rfl, hk⟩
  | ret =>
   refine ⟨.ret, st', h1, fun hep hnp E w0 own0 a w hgl hR => wp_seq ?_⟩
   refine Code.wp_mono' (h2 hep hnp E w0 own0 a w hgl hR) ?_
   rintro e a' w' ⟨rfl, hk⟩
   exact ⟨rfl, hk⟩
 | cond c x y ihx ihy =>
  intro st K r hc hl h
  simp only [codeOk, Bool.and_eq_true] at hc
  simp only [acodeK] at h
  split at h <;> try contradiction
  rename_i b hb
  have hev : ∀ {E : Env} {w0 : World} {own0 : Nat → Bool → Prop} {a : Act} {w : World}, RelSt E w0 own0 st [] a.tmps w → a.eval c = .bool b := by
   intro E w0 own0 a w hR
   have := hR.eval c
   rw [hb] at this
   exact relV_bool.1 this
  cases b with
  | true =>
   obtain ⟨o, st', h1, h2⟩ := ihx st K r hc.1 (fun b hb => hl b (by simp [loopsOf, hb])) h
   exact ⟨o, st', h1, fun hep hnp E w0 own0 a w hgl hR => wp_cond_true (hev hR) (h2 hep hnp E w0 own0 a w hgl hR)⟩
  | false =>
   obtain ⟨o, st', h1, h2⟩ := ihy st K r hc.2 (fun b hb => hl b (by simp [loopsOf, hb])) h
   exact ⟨o, st', h1, fun hep hnp E w0 own0 a w hgl hR => wp_cond_false (hev hR) (h2 hep hnp E w0 own0 a w hgl hR)⟩
 | block id x ih =>
  intro st K r hc hl h
  simp only [acodeK] at h
  obtain ⟨o, st', h1, h2⟩ := ih st _ r (by simpa [codeOk] using hc) (fun b hb => hl b (by simpa [loopsOf] using hb)) h
  cases o with
  | norm =>
   refine ⟨.norm, st', h1, fun hep hnp E w0 own0 a w hgl hR => wp_block ?_⟩
   refine Code.wp_mono' (h2 hep hnp E w0 own0 a w hgl hR) ?_
   rintro e a' w' ⟨rfl, hk⟩
   exact ⟨rfl, hk⟩
  | exit j =>
   by_cases hj : j = id
   ·subst hj
    simp only [decide_true, iteH] at h1
    refine ⟨.norm, st', h1, fun hep hnp E w0 own0 a w hgl hR => wp_block ?_⟩
    refine Code.wp_mono' (h2 hep hnp E w0 own0 a w hgl hR) ?_
    rintro e a' w' ⟨rfl, hk⟩
    simp only [outE, Exit.inBlock, if_true]
    exact ⟨trivial, hk⟩
   ·simp only [hj, decide_false, iteH] at h1
    refine ⟨.exit j, st', h1, fun hep hnp E w0 own0 a w hgl hR => wp_block ?_⟩
    refine Code.wp_mono' (h2 hep hnp E w0 own0 a w hgl hR) ?_
    rintro e a' w' ⟨rfl, hk⟩
    simp only [outE, Exit.inBlock, if_neg hj]
    exact ⟨trivial, hk⟩
  | ret =>
   refine ⟨.ret, st', h1, fun hep hnp E w0 own0 a w hgl hR => wp_block ?_⟩
   refine Code.wp_mono' (h2 hep hnp E w0 own0 a w hgl hR) ?_
   rintro e a' w' ⟨rfl, hk⟩
   exact ⟨rfl, hk⟩
 | loop b ih =>
  intro st K r hc hl h
  simp only [acodeK] at h
  split at h <;> try contradiction
  rename_i r0 h0
  have hb := hl b (by simp [loopsOf])
  rw [show lf st.sl.length st.np (firstRegion b) b = lf st.sl.length st.np (firstRegion b) (loopBody C.P f (firstRegion b)) by rw [hb]] at h
  obtain ⟨o, vs', es', h1, h2⟩ := hlf _ _ _ _ _ _ _ h
  rw [hb] at h1
  refine ⟨o, _, h2, fun hep hnp E w0 own0 a w hgl hR => LoopWp.loop ?_⟩
  obtain ⟨E', q1, q2⟩ := take_place hR h0
  refine LoopWp.mono ?_ (h1 (Nat.le_refl _) hnp E' w0 own0 a w (q2.gl.trans hgl) q1)
  rintro e a' w' ⟨rfl, hk⟩
  exact ⟨rfl, Kept.trans (st' := placeSt st.sl.length st.np (C.live (firstRegion b)) r0.1 r0.2) (E' := E') (a' := a) q2 rfl rfl (by simp [placeSt, placeL_len]) hk⟩
 | exit id =>
  intro st K r hc hl h
  exact ⟨.exit id, st, h, fun hep hnp E w0 own0 a w hgl hR => wp_exit ⟨rfl, .refl hep hR⟩⟩
 | ret =>
  intro st K r hc hl h
  exact ⟨.ret, st, h, fun hep hnp E w0 own0 a w hgl hR => wp_ret ⟨rfl, .refl hep hR⟩⟩
 | scope x ih =>
  intro st K r hc hl h
  simp only [acodeK] at h
  obtain ⟨o, st', h1, h2⟩ := ih st K r (by simpa [codeOk] using hc) (fun b hb => hl b (by simpa [loopsOf] using hb)) h
  refine ⟨o, st', h1, fun hep hnp E w0 own0 a w hgl hR => wp_scope_straight ?_⟩
  refine Code.wp_mono' (h2 hep hnp E w0 own0 a w hgl hR) ?_
  rintro e a' w' ⟨rfl, hk⟩
  cases o <;> exact ⟨rfl, hk⟩
 | _ => intro st K r hc hl h; simp [acodeK] at h
theorem loop_good {R : Type} {cf : CallF R} {lf : LoopF R} {f : FuncId} (hm : C.P.follows .mixedOrders = true) (hcf : CfOk C.P C.glob raw cf) (hlf : LfOk C f lf) {m np id : Nat} {vs : List S} {es : List Ent} {K : Out → List S → List Ent → Option R} {r : R}
  (hc : codeOk C.bef (loopBody C.P f id) = true) (hl : ∀ b ∈ loopsOf (loopBody C.P f id), loopBody C.P f (firstRegion b) = b)
  (h : acodeK C raw cf lf (loopBody C.P f id) (placeSt m np (C.live id) vs es) (loopKont C lf m np id (loopBody C.P f id) K) = some r) :
  ∃ o vs' es', LoopDoes C.P C.glob (placeSt m np (C.live id) vs es) (loopBody C.P f id) o (placeSt m np (C.out id) vs' es') ∧ K o vs' es' = some r := by
 obtain ⟨o, st', h1, h2⟩ := code_good hm hcf hlf _ _ _ _ hc hl h
 have hlen0 : (placeSt m np (C.live id) vs es).sl.length = m := by simp [placeSt, placeL_len]
 have out : ∀ o, o ≠ .norm → (∃ r1, takeSt (C.out id) st' = some r1 ∧ K o r1.1 r1.2 = some r) → CodeDoes C.P C.glob (placeSt m np (C.live id) vs es) (loopBody C.P f id) o st' →
   ∃ o vs' es', LoopDoes C.P C.glob (placeSt m np (C.live id) vs es) (loopBody C.P f id) o (placeSt m np (C.out id) vs' es') ∧ K o vs' es' = some r := by
  rintro o ho ⟨r1, hr1, hK⟩ h2
  refine ⟨o, r1.1, r1.2, fun hep hnp E w0 own0 a w hgl hR => LoopWp.step ?_, hK⟩
  refine Code.wp_mono' (h2 hep hnp E w0 own0 a w hgl hR) ?_
  rintro e a' w' ⟨rfl, ⟨E', q1, q2⟩, q3, q4, q5, q6⟩
  rw [← takeF_nil] at hr1
  obtain ⟨E2, q7, q8⟩ := take_place q1 hr1
  have e1 : st'.sl.length = m := q6.trans hlen0
  have e2 : st'.np = np := q5
  rw [e1, e2] at q7
  rw [e2] at q8
  have hk : Kept E w0 own0 (placeSt m np (C.live id) vs es) a (placeSt m np (C.out id) r1.1 r1.2) a' w' :=
   ⟨⟨E2, q7, Later.trans (np := np) q2 q8⟩, q3, Nat.le_refl _, rfl, by simp [placeSt, placeL_len]⟩
  cases o with
  | norm => exact absurd rfl ho
  | exit j => exact ⟨rfl, hk⟩
  | ret => exact ⟨rfl, hk⟩
 unfold loopKont at h1
 simp only at h1
 cases o with
 | norm =>
  simp only at h1
  split at h1 <;> try contradiction
  rename_i r1 hr1
  obtain ⟨o2, vs', es', h3, h4⟩ := hlf _ _ _ _ _ _ _ h1
  refine ⟨o2, vs', es', fun hep hnp E w0 own0 a w hgl hR => LoopWp.step ?_, h4⟩
  refine Code.wp_mono' (h2 hep hnp E w0 own0 a w hgl hR) ?_
  rintro e a' w' ⟨rfl, ⟨E', q1, q2⟩, q3, q4, q5, q6⟩
  obtain ⟨E2, q7, q8⟩ := take_place q1 hr1
  have e1 : st'.sl.length = m := q6.trans hlen0
  have e2 : st'.np = np := q5
  rw [e1, e2] at q7
  rw [e2] at q8
  show LoopWp _ _ _ _ _
  refine LoopWp.mono ?_ (h3 (Nat.le_refl _) hnp E2 w0 own0 a' w' (q8.gl.trans (q2.gl.trans hgl)) q7)
  rintro e a'' w'' ⟨rfl, hk⟩
  exact ⟨rfl, Kept.trans (st' := placeSt m np (C.live id) r1.1 r1.2) (E' := E2) (a' := a') (Later.trans (np := np) q2 q8) q3 rfl (by simp [placeSt, placeL_len]) hk⟩
 | exit j =>
  simp only at h1
  split at h1 <;> try contradiction
  rename_i r1 hr1
  exact out (.exit j) (by simp) ⟨r1, hr1, h1⟩ h2
 | ret =>
  simp only at h1
  split at h1 <;> try contradiction
  rename_i r1 hr1
  exact out .ret (by simp) ⟨r1, hr1, h1⟩ h2
end
end Go.Ab
