/- A call is sound. -/
import Derived.Test.YtlhinijgdffcdaaGreatDoorCall
namespace Go.Ab
open Go
set_option linter.unusedVariables false
set_option linter.unusedSimpArgs false
theorem zipE_mem : ∀ (es : List Ent) (s : Nat) (j : Nat) (e : Ent), (j, e) ∈ zipE (List.range' s es.length) es ↔ ∃ i, es[i]? = some e ∧ j = s + i
 | [], s, j, e => by simp [zipE]
 | x :: r, s, j, e => by
  rw [List.length_cons, List.range'_succ]
  simp only [zipE, List.mem_cons, Prod.mk.injEq, zipE_mem r (s + 1)]
  constructor
  ·rintro (⟨rfl, rfl⟩ | ⟨i, h1, h2⟩)
   ·exact ⟨0, rfl, rfl⟩
   ·exact ⟨i + 1, by simpa using h1, by omega⟩
  ·rintro ⟨i, h1, h2⟩
   cases i with
   | zero => simp at h1; exact .inl ⟨by omega, h1.symm⟩
   | succ i => exact .inr ⟨i, by simpa using h1, by omega⟩
theorem backEf_mem {ρ : Nat → Nat} : ∀ (l : List (Nat × Ent)) (k : Nat) (x : Option Ent), (k, x) ∈ backEf ρ l ↔ ∃ j e, (j, e) ∈ l ∧ k = ρ j ∧ x = some (Ent.ren ρ e)
 | [], k, x => by simp [backEf]
 | (j, e) :: r, k, x => by
  simp only [backEf, List.mem_cons, Prod.mk.injEq, backEf_mem r]
  constructor
  ·rintro (⟨rfl, rfl⟩ | ⟨j', e', h1, h2, h3⟩)
   ·exact ⟨j, e, .inl ⟨rfl, rfl⟩, rfl, rfl⟩
   ·exact ⟨j', e', .inr h1, h2, h3⟩
  ·rintro ⟨j', e', (⟨rfl, rfl⟩ | h1), h2, h3⟩
   ·exact .inl ⟨h2, h3⟩
   ·exact .inr ⟨j', e', h1, h2, h3⟩
theorem killEf_mem : ∀ (l : List Nat) (k : Nat) (x : Option Ent), (k, x) ∈ killEf l ↔ k ∈ l ∧ x = none
 | [], k, x => by simp [killEf]
 | j :: r, k, x => by
  simp only [killEf, List.mem_cons, Prod.mk.injEq, killEf_mem r]
  constructor
  ·rintro (⟨rfl, rfl⟩ | ⟨h1, h2⟩)
   ·exact ⟨.inl rfl, rfl⟩
   ·exact ⟨.inr h1, h2⟩
  ·rintro ⟨rfl | h1, rfl⟩
   ·exact .inl ⟨rfl, rfl⟩
   ·exact .inr ⟨h1, rfl⟩
theorem bK_spec (pins : List Nat) (n ep d j : Nat) : (∃ k, pins[j]? = some k ∧ bK pins n ep d j = k ∧ j < pins.length) ∨ (pins.length ≤ j ∧ j < n ∧ bK pins n ep d j = mk ep d (j - pins.length)) ∨ (pins.length ≤ j ∧ n ≤ j ∧ bK pins n ep d j = mk ep d 63) := by
 unfold bK backK
 by_cases hj : j < pins.length
 ·left
  rw [List.getElem?_eq_getElem hj]
  exact ⟨_, rfl, rfl, hj⟩
 ·rw [List.getElem?_eq_none (by omega)]
  right
  simp only
  rcases idxK_spec j ((List.range n).drop pins.length) 0 with ⟨h1, h2⟩ | ⟨i, h1, h2, h3⟩
  ·rw [h2]
   right
   refine ⟨by omega, ?_, rfl⟩
   by_cases hn : n ≤ j
   ·exact hn
   ·exfalso; apply h1
    rw [List.mem_iff_getElem?]
    exact ⟨j - pins.length, by rw [List.getElem?_drop, List.getElem?_range (by omega)]; congr 1; omega⟩
  ·rw [h2]
   left
   rw [List.getElem?_drop] at h1
   have hlt : pins.length + i < n := by
    by_cases h : pins.length + i < n
    ·exact h
    ·rw [List.getElem?_eq_none (by simp; omega)] at h1; cases h1
   rw [List.getElem?_range hlt] at h1
   simp only [Option.some.injEq] at h1
   refine ⟨by omega, by omega, ?_⟩
   show mk ep d (0 + i) = _
   congr 1; omega
theorem nodup_get {l : List Nat} (h : l.Nodup) {i j k : Nat} (hi : l[i]? = some k) (hj : l[j]? = some k) : i = j := by
 have hil : i < l.length := by
  by_cases h : i < l.length
  ·exact h
  ·rw [List.getElem?_eq_none (by omega)] at hi; cases hi
 have hjl : j < l.length := by
  by_cases h : j < l.length
  ·exact h
  ·rw [List.getElem?_eq_none (by omega)] at hj; cases hj
 rw [List.getElem?_eq_getElem hil] at hi
 rw [List.getElem?_eq_getElem hjl] at hj
 cases hi
 have hj := Option.some.inj hj
 have hp := List.pairwise_iff_getElem.1 h
 rcases Nat.lt_trichotomy i j with hlt | heq | hgt
 ·exact absurd hj.symm (hp i j hil hjl hlt)
 ·exact heq
 ·exact absurd hj (hp j i hjl hil hgt)
theorem npOf_ents {pins owns : List Ent} (hp : ∀ e ∈ pins, e.pin = true) (ho : ∀ e ∈ owns, e.pin = false) : npOf (pins ++ owns) = pins.length := by
 induction pins with
 | nil =>
  cases owns with
  | nil => rfl
  | cons e r => simp [npOf, ho e (by simp)]
 | cons e r ih =>
  simp only [List.cons_append, npOf, hp e List.mem_cons_self, if_true, List.length_cons]
  rw [ih (fun x hx => hp x (List.mem_cons_of_mem _ hx))]
theorem ren_pin {ρ : Nat → Nat} (e : Ent) : (Ent.ren ρ e).pin = e.pin := by cases e <;> rfl
section
variable {E : Env} {w0 : World} {own0 : Nat → Bool → Prop} {st : St} {D : List Nat} {a : Act} {w : World} {C : Ctx} {o : Oper} {i : Nat}
theorem allK_nodup (tb : Tbl) (as : List S) : (allK tb as).Nodup := by
 obtain ⟨q, _, h⟩ := reach_spec tb 4 (addAll [] (keysOfL as))
 obtain ⟨_, _, h2, _⟩ := addAll_spec (keysOfL as) []
 exact h (h2 List.nodup_nil)
theorem ksK_nodup (raw : FuncId → Bool) (f : FuncId) (tb : Tbl) (as : List S) : (ksK raw f tb as).Nodup := by
 unfold ksK pinsK ownsK
 rw [List.nodup_append]
 refine ⟨(allK_nodup tb as).filter _, (allK_nodup tb as).filter _, ?_⟩
 intro x hx y hy
 simp only [List.mem_filter] at hx hy
 rintro rfl
 simp [hx.2] at hy
theorem relVL_map (hR : RelSt E w0 own0 st D a.tmps w) : ∀ l : List Operand, RelVL E st.tb w (l.map (evalS st.sl)) (l.map a.eval)
 | [] => rfl
 | x :: l => ⟨_, _, rfl, hR.eval x, relVL_map hR l⟩
theorem RelVL.append {tb : Tbl} : ∀ {l m : List S} {vs us : List Value}, RelVL E tb w l vs → RelVL E tb w m us → RelVL E tb w (l ++ m) (vs ++ us)
 | [], m, vs, us, h, k => by cases h; exact k
 | f :: r, m, vs, us, h, k => by
  obtain ⟨v, q, rfl, h1, h2⟩ := h
  exact ⟨v, q ++ us, rfl, h1, RelVL.append h2 k⟩
theorem call_does {raw : FuncId → Bool} {fo : Operand} {ags : Array Operand} {tys : Array TypeId} {f : FuncId} {cap : List S} {v : S} {ef : List (Nat × Option Ent)} {fn : Func} {as : List S} {es : List Ent} {v' : S} {es' : List Ent}
  (hgl : E.gl = C.glob) (hR : RelSt E w0 own0 st D a.tmps w) (hi : i ∉ D) (hep : 1 ≤ st.ep)
  (ho : o.op = .call { callee := .value fo, args := ags, argTypes := tys }) (hf : evalS st.sl fo = .fn f cap)
  (H : CallDid C raw st.ep i f (ags.toList.map (evalS st.sl) ++ cap) st.tb v ef fn as es v' es') : OpDoes C.P E w0 own0 st D i o v ef a w := by
 obtain ⟨hfn, has, hes, hlen, hd, hlows, ⟨henter, hok⟩, hlen1, hlen2, hv, hef⟩ := H
 obtain ⟨pins, hpins⟩ : ∃ pins, pins = pinsK raw f st.tb as := ⟨_, rfl⟩
 obtain ⟨owns, howns⟩ : ∃ owns, owns = ownsK raw f st.tb as := ⟨_, rfl⟩
 obtain ⟨ks, hks⟩ : ∃ ks, ks = ksK raw f st.tb as := ⟨_, rfl⟩
 obtain ⟨lows, hlw⟩ : ∃ lows, lows = lowsK C.P raw f fn.params.toList (ags.toList.map (evalS st.sl) ++ cap) := ⟨_, rfl⟩
 have hkpo : ks = pins ++ owns := by rw [hks, hpins, howns]; rfl
 have hknd : ks.Nodup := by rw [hks]; exact ksK_nodup _ _ _ _
 obtain ⟨qb, hqb⟩ : ∃ qb, qb = (ags.toList.map (evalS st.sl) ++ cap).all (lowB st.tb) := ⟨_, rfl⟩
 rw [← hqb] at hef
 rw [← hks] at hes hlen hlows hok
 rw [← hlw] at hlows hef
 rw [← hpins] at hlen1 hv hef
 rw [← howns] at hef
 obtain ⟨σ, hσ⟩ : ∃ σ, σ = sendK ks := ⟨_, rfl⟩
 obtain ⟨ρ, hρ⟩ : ∃ ρ, ρ = bK pins es'.length st.ep i := ⟨_, rfl⟩
 rw [← hσ] at hes hok
 rw [← hρ] at hv hef
 obtain ⟨hesl, hesg⟩ := entsOf_spec hes
 have hlowsN : ∀ k ∈ lows, k ∉ ks := by
  intro k hk
  have := List.all_eq_true.1 hlows k hk
  simpa using this
 have hksAlive : ∀ k ∈ ks, ∃ e, st.tb k = some e := by
  intro k hk
  obtain ⟨j, hj⟩ := List.mem_iff_getElem?.1 hk
  obtain ⟨e, h1, _⟩ := hesg j k hj
  exact ⟨e, h1⟩
 obtain ⟨Ec, hEc⟩ : ∃ Ec : Env, Ec = ⟨fun j => (ks[j]?).bind E.κ, fun t b => E.av t b ∨ ∃ k p e, E.κ k = some p ∧ st.tb k = some e ∧ e.fz = false ∧ p.1 = b ∧ k ∉ ks ∧ (k ∉ lows ∨ (qb = true ∧ t.isNw = true)), E.gl⟩ := ⟨_, rfl⟩
 have hκc : ∀ (j k : Nat), ks[j]? = some k → Ec.κ j = E.κ k := by intro j k h; rw [hEc]; simp [h]
 have hκback : ∀ (j : Nat) p, Ec.κ j = some p → ∃ k, ks[j]? = some k ∧ E.κ k = some p := by
  intro j p h
  rw [hEc] at h
  simp only [Option.bind_eq_some_iff] at h
  exact h
 have havc : ∀ t b, Ec.av t b ↔ E.av t b ∨ ∃ k p e, E.κ k = some p ∧ st.tb k = some e ∧ e.fz = false ∧ p.1 = b ∧ k ∉ ks ∧ (k ∉ lows ∨ (qb = true ∧ t.isNw = true)) := by intro t b; rw [hEc]
 have hglc : Ec.gl = E.gl := by rw [hEc]
 have hokc : ∀ t b, E.ok st.tb t b → b < w.heap.size → Ec.ok (tbOf es) t b := by
  intro t b hb _
  refine ⟨?_, fun j p e hj he hfz hpb => ?_⟩
  ·rw [havc]
   rintro (h | ⟨k, p, e, h1, h2, h3, h4, _⟩)
   ·exact hb.1 h
   ·exact hb.2 k p e h1 h2 h3 h4
  ·obtain ⟨k, e0, h1, h2, rfl⟩ := entsOf_back hes he
   rw [hκc j k h1] at hj
   rw [ren_fz] at hfz
   exact hb.2 k p e0 hj h2 hfz hpb
 have X1 : Xfer σ E st.tb Ec (tbOf es) w False := by
  refine ⟨.inr hokc, fun j => ?_, hglc⟩
  rw [hσ]
  rcases sendK_spec ks j with ⟨_, h⟩ | ⟨m, h1, h2, h3⟩
  ·left; rw [h]; show es[63]? = none; rw [List.getElem?_eq_none (by omega)]
  ·right
   obtain ⟨e, q1, q2⟩ := hesg m j h1
   exact ⟨e, _, q1, by rw [h2]; exact q2, SameForm.ren (hR.ent j e q1), by rw [h2]; exact hκc m j h1⟩
 have hlowok : ∀ k ∈ lows, ∀ e p, st.tb k = some e → E.κ k = some p → ∀ ty : Ty, (qb = true → ty.isNw = false) → Ec.ok (tbOf es) ty p.1 := by
  intro k hk e p he hp ty hty
  refine ⟨?_, fun j q f hq hf hfz hpb => ?_⟩
  ·rw [havc]
   rintro (h | ⟨k', p', e', h1, h2, h3, h4, h5, h6⟩)
   ·exact (hR.ent k e he).notav hp ty h
   ·have := hR.inj k' k p' p e' e h1 hp h2 he h4
    subst this
    rcases h6 with h6 | ⟨h6, h7⟩
    ·exact h6 hk
    ·rw [hty h6] at h7; cases h7
  ·obtain ⟨k', e0, h1, h2, rfl⟩ := entsOf_back hes hf
   rw [hκc j k' h1] at hq
   have := hR.inj k' k q p e0 e hq hp h2 he hpb
   subst this
   exact hlowsN _ hk (List.mem_of_getElem? h1)
 have hval := hR.eval fo
 rw [hf, relV_scalar rfl] at hval
 obtain ⟨cvs, hcv, hcrel⟩ := hval
 have hcv := (List.cons.inj hcv).1
 have hargs : RelVL E st.tb w (ags.toList.map (evalS st.sl) ++ cap) (ags.toList.map a.eval ++ cvs) := RelVL.append (relVL_map hR _) hcrel
 have hvals : RelVL Ec (tbOf es) w (renL σ as) (ags.toList.map a.eval ++ cvs) := by
  unfold asK at has
  split at has
  ·simp only [Option.some.injEq] at has; rw [← has]
   exact X1.relVL (fun h => h.elim) hargs
  ·rename_i hraw
   refine argsC_rel (qb := qb) X1 hR.bufs _ _ hargs has (fun hq v hv => List.all_eq_true.1 (hqb.symm.trans hq) v hv) (fun k hk e p he hp => hlowok k ?_ e p he hp)
   rw [hlw]; unfold lowsK; rw [if_neg hraw]; exact hk
 have hkle : ∀ k, σ k < 64 := by intro k; rw [hσ]; have := sendK_lt ks k hlen; omega
 have hin : FnIn Ec w (renL σ as) es (ags.toList.map a.eval ++ cvs) := by
  refine ⟨hvals, ?_, ?_, ?_, ?_, ?_, ?_, by omega⟩
  ·intro k e he
   obtain ⟨k0, e0, h1, h2, rfl⟩ := entsOf_back hes he
   refine X1.relE (hκc k k0 h1) (fun p hp ty => ?_) (fun h => h.elim) (hR.ent k0 e0 h2)
   rw [havc]
   rintro (h | ⟨k', p', e', q1, q2, q3, q4, q5, q6⟩)
   ·exact (hR.ent k0 e0 h2).notav hp ty h
   ·have := hR.inj k' k0 p' p e' e0 q1 hp q2 h2 q4
    subst this
    exact q5 (List.mem_of_getElem? h1)
  ·intro k j p q e f hp hq he hf hpq
   obtain ⟨k0, e0, h1, h2, rfl⟩ := entsOf_back hes he
   obtain ⟨j0, f0, h3, h4, rfl⟩ := entsOf_back hes hf
   rw [hκc k k0 h1] at hp
   rw [hκc j j0 h3] at hq
   have := hR.inj k0 j0 p q e0 f0 hp hq h2 h4 hpq
   subst this
   exact nodup_get hknd h1 h3
  ·intro k hk
   rw [renL_keys] at hk
   obtain ⟨j, _, rfl⟩ := List.mem_map.1 hk
   exact hkle j
  ·intro k e he j hj
   obtain ⟨k0, e0, h1, h2, rfl⟩ := entsOf_back hes he
   rw [ren_ekeys] at hj
   obtain ⟨m, _, rfl⟩ := List.mem_map.1 hj
   exact hkle m
  ·intro g s hg
   rw [hglc] at hg
   obtain ⟨h1, h2, cs, h3, h4, h5⟩ := hR.glob g s hg
   refine ⟨fun t => hokc t g (h1 t) h2, h2, cs, h3, ?_, h5⟩
   have := X1.rel (fun h => h.elim) h4
   rwa [ren_none h5] at this
  ·intro t b hb
   rw [havc] at hb
   rcases hb with hb | ⟨k, p, e, h1, h2, h3, h4, _⟩
   ·exact hR.avlt t b hb
   ·rw [← h4]; exact (hR.ent k e h2).lt h1
 have hcall := hok Ec w _ (hglc.trans hgl) hin
 intro K Q hK
 have hexec : (execOp a.eval o).run C.P w = .ok (.enter f (ags.toList.map a.eval ++ cvs).toArray) w := by
  unfold execOp; rw [ho]
  simp only [resolve, hcv, Deferred.ofValue, Sem.run_bind, Sem.run_pure, Result.andThen_ok, invoke]
  have := henter (#[] ++ ags.map a.eval ++ cvs.toArray) w
  rw [this]
  congr 2
  apply Array.ext'
  simp
 unfold Oper.wp
 rw [hexec, Oper.upon_enter]
 refine Calls.mono hcall ?_
 rintro en w' ⟨rv, E', rfl, hout⟩
 obtain ⟨oval, oent, oinj, oav, ogl, opin, oform, ohist, oown⟩ := hout
 have hnp : npF raw f es = pins.length := by
  unfold npF
  split
  ·rename_i hraw
   have : owns = [] := by
    rw [howns]; unfold ownsK
    rw [List.filter_eq_nil_iff]; simp [hraw]
   rw [hesl, hkpo, this]; simp
  ·rename_i hraw
   have hsplit : es = es.take pins.length ++ es.drop pins.length := (List.take_append_drop _ _).symm
   have hpl : (es.take pins.length).length = pins.length := by rw [List.length_take, hesl, hkpo]; simp
   rw [hsplit, npOf_ents, hpl]
   ·intro e he
    obtain ⟨m, hm⟩ := List.mem_iff_getElem?.1 he
    rw [List.getElem?_take] at hm
    split at hm <;> try contradiction
    rename_i hml
    obtain ⟨k, e0, h1, h2, rfl⟩ := entsOf_back hes hm
    rw [hkpo, List.getElem?_append_left hml] at h1
    have hmem := List.mem_of_getElem? h1
    rw [hpins] at hmem
    unfold pinsK at hmem
    rw [List.mem_filter] at hmem
    have h3 := hmem.2
    simp only [hraw, Bool.or_false] at h3
    unfold pinK at h3
    rw [h2] at h3
    rw [ren_pin]; exact h3
   ·intro e he
    obtain ⟨m, hm⟩ := List.mem_iff_getElem?.1 he
    rw [List.getElem?_drop] at hm
    obtain ⟨k, e0, h1, h2, rfl⟩ := entsOf_back hes hm
    rw [hkpo, List.getElem?_append_right (by omega)] at h1
    have hmem := List.mem_of_getElem? h1
    rw [howns] at hmem
    unfold ownsK at hmem
    rw [List.mem_filter] at hmem
    have h3 := hmem.2
    simp only [hraw, Bool.or_false, Bool.not_eq_true'] at h3
    unfold pinK at h3
    rw [h2] at h3
    rw [ren_pin]; exact h3
 rw [hnp] at opin oform
 have hpk : ∀ (j k : Nat), pins[j]? = some k → ks[j]? = some k := by
  intro j k h
  have hj : j < pins.length := by
   by_cases h' : j < pins.length
   ·exact h'
   ·rw [List.getElem?_eq_none (by omega)] at h; cases h
  rw [hkpo, List.getElem?_append_left hj]; exact h
 have hpold : ∀ k ∈ ks, k / 64 ≠ st.ep * 4096 + i := by
  intro k hk
  obtain ⟨e, he⟩ := hksAlive k hk
  exact (hR.keyT k e he).notFresh hi hd
 obtain ⟨E2, hE2⟩ : ∃ E2 : Env, E2 = E.upd (st.ep * 4096 + i) fun m => if pins.length + m < es'.length then E'.κ (pins.length + m) else none := ⟨_, rfl⟩
 have hE2new : ∀ m, m < 64 → E2.κ (mk st.ep i m) = if pins.length + m < es'.length then E'.κ (pins.length + m) else none := by
  intro m hm
  rw [hE2, upd_new (mk_div _ _ _ hm), mk_mod _ _ _ hm]
 have hE2old : ∀ k, k / 64 ≠ st.ep * 4096 + i → E2.κ k = E.κ k := by intro k hk; rw [hE2]; exact upd_old hk
 have hρκ : ∀ j, j < es'.length → E2.κ (ρ j) = E'.κ j := by
  intro j hj
  rw [hρ]
  rcases bK_spec pins es'.length st.ep i j with ⟨k, h1, h2, h3⟩ | ⟨h1, h2, h3⟩ | ⟨h1, h2, h3⟩
  ·rw [h2, hE2old k (hpold k (List.mem_of_getElem? (hpk j k h1))), opin j h3, hκc j k (hpk j k h1)]
  ·rw [h3, hE2new _ (by omega), if_pos (by omega)]; congr 1; omega
  ·omega
 have hρinj : ∀ j j', j < es'.length → j' < es'.length → ρ j = ρ j' → j = j' := by
  intro j j' hj hj' h
  rw [hρ] at h
  rcases bK_spec pins es'.length st.ep i j with ⟨k, h1, h2, h3⟩ | ⟨h1, h2, h3⟩ | ⟨h1, h2, h3⟩ <;>
  rcases bK_spec pins es'.length st.ep i j' with ⟨k', h1', h2', h3'⟩ | ⟨h1', h2', h3'⟩ | ⟨h1', h2', h3'⟩
  ·rw [h2, h2'] at h; subst h
   exact nodup_get hknd (hpk j k h1) (hpk j' k h1')
  ·rw [h2, h3'] at h
   exact absurd (by rw [h]; exact mk_div _ _ _ (by omega)) (hpold k (List.mem_of_getElem? (hpk j k h1)))
  ·omega
  ·rw [h3, h2'] at h
   exact absurd (by rw [← h]; exact mk_div _ _ _ (by omega)) (hpold k' (List.mem_of_getElem? (hpk j' k' h1')))
  ·rw [h3, h3'] at h; have := mk_inj h; omega
  ·omega
  ·omega
  ·omega
  ·omega
 obtain ⟨FR, hFR⟩ : ∃ FR, FR = (if flat qb v' && es'.all (flatE qb) then [] else freezes st.tb lows) := ⟨_, rfl⟩
 rw [← hFR] at hef
 obtain ⟨tb', htb'⟩ : ∃ tb', tb' = st.tb.sets ef := ⟨_, rfl⟩
 have hrange : List.range es'.length = List.range' 0 es'.length := List.range_eq_range'
 have hbm : ∀ k x, (k, x) ∈ backEf ρ (zipE (List.range es'.length) es') ↔ ∃ j e, es'[j]? = some e ∧ k = ρ j ∧ x = some (Ent.ren ρ e) := by
  intro k x
  rw [backEf_mem, hrange]
  constructor
  ·rintro ⟨j, e, h1, h2, h3⟩
   rw [zipE_mem] at h1
   obtain ⟨m, h4, h5⟩ := h1
   rw [Nat.zero_add] at h5; subst h5
   exact ⟨j, e, h4, h2, h3⟩
  ·rintro ⟨j, e, h1, h2, h3⟩
   exact ⟨j, e, (zipE_mem es' 0 j e).2 ⟨j, h1, by omega⟩, h2, h3⟩
 have hgetlt : ∀ {j : Nat} {e : Ent}, es'[j]? = some e → j < es'.length := by
  intro j e h
  by_cases h' : j < es'.length
  ·exact h'
  ·rw [List.getElem?_eq_none (by omega)] at h; cases h
 have hA : ∀ (j : Nat) (e : Ent), es'[j]? = some e → tb' (ρ j) = some (Ent.ren ρ e) := by
  intro j e he
  rw [htb', hef, sets_append]
  have hm := sets_mem (backEf ρ (zipE (List.range es'.length) es')) (st.tb.sets (FR ++ killEf owns)) (k := ρ j) ⟨_, (hbm _ _).2 ⟨j, e, he, rfl, rfl⟩⟩
  obtain ⟨j', e', h1, h2, h3⟩ := (hbm _ _).1 hm
  have := hρinj j j' (hgetlt he) (hgetlt h1) h2
  subst this
  rw [he] at h1; cases h1
  exact h3
 have hB : ∀ k, (∀ j, j < es'.length → k ≠ ρ j) → tb' k = if k ∈ owns then none else st.tb.sets FR k := by
  intro k hk
  rw [htb', hef, sets_append, sets_other _ _ (fun p hp h => by
   obtain ⟨j, e, h1, h2, _⟩ := (hbm p.1 p.2).1 hp
   exact hk j (hgetlt h1) (by rw [← h, h2]))]
  rw [sets_append]
  by_cases hko : k ∈ owns
  ·rw [if_pos hko]
   have hm := sets_mem (killEf owns) (st.tb.sets FR) (k := k) ⟨_, (killEf_mem _ _ _).2 ⟨hko, rfl⟩⟩
   exact ((killEf_mem _ _ _).1 hm).2
  ·rw [if_neg hko]
   exact sets_other _ _ (fun p hp h => hko (by rw [← h]; exact ((killEf_mem _ p.1 p.2).1 hp).1))
 have hFRget : ∀ k, st.tb.sets FR k = st.tb k ∨ ∃ e, st.tb k = some e ∧ k ∈ lows ∧ st.tb.sets FR k = some e.freeze := by
  intro k
  rw [hFR]
  split
  ·exact .inl rfl
  ·exact freezes_get st.tb lows k
 have himg : ∀ k, (∃ j, j < es'.length ∧ k = ρ j) ∨ ∀ j, j < es'.length → k ≠ ρ j := by
  intro k
  by_cases h : ∃ j, j < es'.length ∧ k = ρ j
  ·exact .inl h
  ·exact .inr fun j hj hk => h ⟨j, hj, hk⟩
 have hgen : ∀ (t : Ty) b, E'.ok (tbOf es') t b → (¬ (qb = true ∧ t.isNw = true) → ∀ k ∈ lows, ∀ p e, E.κ k = some p → st.tb k = some e → st.tb.sets FR k = st.tb k → e.fz = false → p.1 ≠ b) → E2.ok tb' t b := by
  intro t b hb hlw2
  have hnav := hb.1
  rw [oav, havc] at hnav
  refine ⟨fun h => hnav (.inl (by rw [hE2] at h; exact h)), fun k p e hp he hfz hpb => ?_⟩
  rcases himg k with ⟨j, hj, rfl⟩ | hno
  ·rw [hρκ j hj] at hp
   rw [hA j _ (List.getElem?_eq_getElem hj)] at he
   cases he
   rw [ren_fz] at hfz
   exact hb.2 j p _ hp (List.getElem?_eq_getElem hj) hfz hpb
  ·rw [hB k hno] at he
   split at he <;> try contradiction
   rename_i hko
   have hkt : k / 64 ≠ st.ep * 4096 + i := by
    intro hkt
    rcases hFRget k with h | ⟨e1, h1, _, _⟩
    ·rw [h, fresh_none hR hi hd hkt] at he; cases he
    ·rw [fresh_none hR hi hd hkt] at h1; cases h1
   rw [hE2old k hkt] at hp
   have hkks : k ∉ ks := by
    intro hk
    rw [hkpo, List.mem_append] at hk
    rcases hk with hk | hk
    ·obtain ⟨j, hj⟩ := List.mem_iff_getElem?.1 hk
     have hjl : j < pins.length := by
      by_cases h' : j < pins.length
      ·exact h'
      ·rw [List.getElem?_eq_none (by omega)] at hj; cases hj
     refine hno j (by omega) ?_
     rw [hρ]
     rcases bK_spec pins es'.length st.ep i j with ⟨k', h1, h2, h3⟩ | ⟨h1, _⟩ | ⟨h1, _⟩
     ·rw [hj] at h1; cases h1; exact h2.symm
     ·omega
     ·omega
    ·exact hko hk
   rcases hFRget k with h | ⟨e1, h1, _, h3⟩
   ·rw [h] at he
    have hkl : k ∉ lows ∨ (qb = true ∧ t.isNw = true) := by
     by_cases hn : qb = true ∧ t.isNw = true
     ·exact .inr hn
     ·refine .inl fun hkl => ?_
      exact hlw2 hn k hkl p e hp he h hfz hpb
    exact hnav (.inr ⟨k, p, e, hp, he, hfz, hpb, hkks, hkl⟩)
   ·rw [h3] at he; cases he; rw [freeze_fz] at hfz; cases hfz
 have X2 : Xfer ρ E' (tbOf es') E2 tb' w' ((flat qb v' && es'.all (flatE qb)) = true) qb := by
  refine ⟨?_, fun j => ?_, ?_⟩
  ·by_cases hF : (flat qb v' && es'.all (flatE qb)) = true
   ·refine .inl ⟨hF, fun hq ty b hb hlt => ?_⟩
    by_cases hlo : ty.isNw = false ∧ ∃ k ∈ lows, ∃ p e, E.κ k = some p ∧ st.tb k = some e ∧ p.1 = b
    ·right
     obtain ⟨hnw, hlo⟩ := hlo
     refine ⟨?_, hnw⟩
     obtain ⟨k, hk, p, e, hp, he, hpb⟩ := hlo
     have hk' := hk
     rw [hlw] at hk'
     unfold lowsK at hk'
     split at hk'
     ·cases hk'
     ·obtain ⟨p', hp', hB'⟩ := low_bytes (w := w) hR.ent hargs (hqb.symm.trans hq) hk'
      rw [hp] at hp'; cases hp'
      rw [hpb] at hB'
      have hblt : b < w.heap.size := by rw [← hpb]; exact (hR.ent k e he).lt hp
      have hnow : ¬ ownsB Ec es b false := by
       rintro ⟨j, q, e1, h1, h2, h3, _⟩
       obtain ⟨k0, e0, q1, q2, rfl⟩ := entsOf_back hes h2
       rw [hκc j k0 q1] at h1
       have := hR.inj k0 k q p e0 e h1 hp q2 he (by rw [h3, hpb])
       subst this
       exact hlowsN _ hk (List.mem_of_getElem? q1)
      intro o v hv
      rw [cell_same (ohist.block b hblt hnow)] at hv
      exact hB' o v hv
    ·left
     refine hgen ty b hb fun hn k hk p e hp he _ _ hpb => ?_
     cases hnw : ty.isNw with
     | true => exact hn ⟨hq, hnw⟩
     | false => exact hlo ⟨hnw, k, hk, p, e, hp, he, hpb⟩
   ·right
    have hFR' : FR = freezes st.tb lows := by rw [hFR, if_neg hF]
    intro ty b hb _
    refine hgen ty b hb fun _ k hk p e hp he h hfz _ => ?_
    rw [hFR'] at h
    have := freezes_hit he hk
    rw [h, he] at this
    simp only [Option.some.injEq] at this
    rw [this, freeze_fz] at hfz; cases hfz
  ·by_cases hj : j < es'.length
   ·right
    exact ⟨_, _, List.getElem?_eq_getElem hj, hA j _ (List.getElem?_eq_getElem hj), SameForm.ren (oent j _ (List.getElem?_eq_getElem hj)), hρκ j hj⟩
   ·left
    rw [hρ]
    have hno : ∀ j', j' < es'.length → mk st.ep i 63 ≠ ρ j' := by
     intro j' hj' h
     rw [hρ] at h
     rcases bK_spec pins es'.length st.ep i j' with ⟨k, h1, h2, h3⟩ | ⟨h1, h2, h3⟩ | ⟨h1, h2, h3⟩
     ·rw [h2] at h
      exact hpold k (List.mem_of_getElem? (hpk j' k h1)) (by rw [← h]; exact mk_div _ _ _ (by omega))
     ·rw [h3] at h; have := mk_inj h; omega
     ·omega
    have hval : tb' (mk st.ep i 63) = none := by
     rw [hB _ hno]
     split
     ·rfl
     ·have hfn := fresh_none hR hi hd (mk_div st.ep i 63 (by omega))
      rcases hFRget (mk st.ep i 63) with h | ⟨e1, h1, _, _⟩
      ·rw [h, hfn]
      ·rw [hfn] at h1; cases h1
    rcases bK_spec pins es'.length st.ep i j with ⟨k, h1, h2, h3⟩ | ⟨h1, h2, h3⟩ | ⟨h1, h2, h3⟩
    ·omega
    ·omega
    ·rw [h3]; exact hval
  ·rw [ogl, hglc, hE2]; rfl
 have hflatv : (flat qb v' && es'.all (flatE qb)) = true → flat qb v' = true := fun h => by rw [Bool.and_eq_true] at h; exact h.1
 have hflate : ∀ {j : Nat} {e : Ent}, es'[j]? = some e → (flat qb v' && es'.all (flatE qb)) = true → flatE qb e = true := fun he h => by
  rw [Bool.and_eq_true, List.all_eq_true] at h; exact h.2 _ (List.mem_of_getElem? he)
 have hρknown : ∀ j, Known st.ep (i :: D) (ρ j) := by
  intro j
  rw [hρ]
  rcases bK_spec pins es'.length st.ep i j with ⟨k, h1, h2, h3⟩ | ⟨h1, h2, h3⟩ | ⟨h1, h2, h3⟩
  ·rw [h2]
   obtain ⟨e, he⟩ := hksAlive k (List.mem_of_getElem? (hpk j k h1))
   exact (hR.keyT k e he).cons
  ·rw [h3]; exact mk_known (by omega)
  ·rw [h3]; exact mk_known (by omega)
 have hE2av : ∀ (j : Nat) (e : Ent), es'[j]? = some e → ∀ p, E'.κ j = some p → ∀ t, ¬ E2.av t p.1 := by
  intro j e he p hp t h
  refine (oent j e he).notav hp t ?_
  rw [oav, havc]; left; rw [hE2] at h; exact h
 have hentnew : ∀ (j : Nat) (e : Ent), es'[j]? = some e → RelE E2 tb' w' (ρ j) (Ent.ren ρ e) ∧ ∀ m ∈ (Ent.ren ρ e).keys, Known st.ep (i :: D) m := by
  intro j e he
  refine ⟨X2.relE (hρκ j (hgetlt he)) (hE2av j e he) (hflate he) (oent j e he), fun m hm => ?_⟩
  rw [ren_ekeys] at hm
  obtain ⟨m', _, rfl⟩ := List.mem_map.1 hm
  exact hρknown m'
 have hownsT : ∀ b, ownsB Ec es b false → ∃ k p e, k ∈ ks ∧ E.κ k = some p ∧ st.tb k = some e ∧ e.fz = false ∧ p.1 = b := by
  rintro b ⟨j, p, e, h1, h2, h3, h4⟩
  obtain ⟨k, e0, q1, q2, rfl⟩ := entsOf_back hes h2
  rw [hκc j k q1] at h1
  have := h4 rfl
  rw [ren_fz] at this
  exact ⟨k, p, e0, List.mem_of_getElem? q1, h1, q2, this, h3⟩
 have U : Turn E w0 own0 st w (st.ep * 4096 + i) (Known st.ep (i :: D)) (fun b => ownsB Ec es b false) E2 tb' w' := by
  refine ⟨ohist.size, ohist.os, ohist.tape, ohist.output, ?_, fun b hb hT => ohist.block b hb hT, fun b o _ h => ohist.cells b o h, fun b o hT h => ohist.cellsR b o (by obtain ⟨k, p, e, _, h1, h2, _, h4⟩ := hownsT b hT; rw [← h4]; exact (hR.ent k e h2).lt h1) h, hE2old, by rw [hE2]; rfl, by rw [hE2]; rfl, ?_, ?_, ?_⟩
  ·intro b hb
   obtain ⟨k, p, e, _, h1, h2, h3, h4⟩ := hownsT b hb
   exact ⟨k, p, e, h1, h2, h3, h4⟩
  ·intro k e' he hk
   rcases himg k with ⟨j, hj, rfl⟩ | hno
   ·have hej := List.getElem?_eq_getElem hj
    rw [hA j _ hej] at he
    simp only [Option.some.injEq] at he
    have hjp : j < pins.length := by
     rw [hρ] at hk
     rcases bK_spec pins es'.length st.ep i j with ⟨k, h1, h2, h3⟩ | ⟨h1, h2, h3⟩ | ⟨h1, h2, h3⟩
     ·exact h3
     ·rw [h3] at hk; exact absurd (mk_div _ _ _ (by omega)) hk
     ·omega
    have hρj : ∃ k, pins[j]? = some k ∧ ρ j = k := by
     rw [hρ]
     rcases bK_spec pins es'.length st.ep i j with ⟨k, h1, h2, h3⟩ | ⟨h1, h2, h3⟩ | ⟨h1, h2, h3⟩
     ·exact ⟨k, h1, h2⟩
     ·omega
     ·omega
    obtain ⟨k, hpj, hkk⟩ := hρj
    obtain ⟨e1, h1, h2, h3⟩ := oform j hjp _ hej
    obtain ⟨k0, e0, q1, q2, rfl⟩ := entsOf_back hes h1
    rw [hpk j k hpj] at q1; cases q1
    rw [hkk]
    refine ⟨e0, q2, ?_, ?_, .inr fun _ => ?_⟩
    ·rw [← he]
     exact ((SameForm.ren (hR.ent k e0 q2)).trans h2).trans (SameForm.ren (oent j _ hej))
    ·intro hf; rw [← he, ren_fz]; exact h3 (by rw [ren_fz]; exact hf)
    ·rw [← he, ← hkk]; exact hentnew j _ hej
   ·rw [hB k hno] at he
    split at he <;> try contradiction
    rename_i hko
    have hkks : k ∉ ks := by
     intro hk'
     rw [hkpo, List.mem_append] at hk'
     rcases hk' with hk' | hk'
     ·obtain ⟨j, hj⟩ := List.mem_iff_getElem?.1 hk'
      have hjl : j < pins.length := by
       by_cases h' : j < pins.length
       ·exact h'
       ·rw [List.getElem?_eq_none (by omega)] at hj; cases hj
      refine hno j (by omega) ?_
      rw [hρ]
      rcases bK_spec pins es'.length st.ep i j with ⟨k', h1, h2, h3⟩ | ⟨h1, _⟩ | ⟨h1, _⟩
      ·rw [hj] at h1; cases h1; exact h2.symm
      ·omega
      ·omega
     ·exact hko hk'
    have hnT : ∀ e, st.tb k = some e → ∀ p, E.κ k = some p → ¬ ownsB Ec es p.1 false := by
     intro e he p hp hT
     obtain ⟨k', p', e', h0, h1, h2, h3, h4⟩ := hownsT _ hT
     have := hR.inj k' k p' p e' e h1 hp h2 he h4
     subst this; exact hkks h0
    rcases hFRget k with h | ⟨e1, h1, _, h3⟩
    ·rw [h] at he
     exact ⟨e', he, SameForm.refl, id, .inl ⟨rfl, hnT e' he⟩⟩
    ·rw [h3] at he; cases he
     refine ⟨e1, h1, SameForm.freeze, fun _ => freeze_fz e1, .inr fun M => ⟨?_, ?_⟩⟩
     ·have hr := hR.ent k e1 h1
      exact (M.relE (hE2old k hk) (by rw [hE2]; rfl) (fun p hp => ohist.block _ (hr.lt hp) (hnT e1 h1 p hp)) ohist.size (fun j hj => (hR.keyE k e1 h1 j hj).notFresh hi hd) hr).freeze
     ·rw [freeze_keys]; exact fun j hj => (hR.keyE k e1 h1 j hj).cons
  ·intro k e' he hk
   rcases himg k with ⟨j, hj, rfl⟩ | hno
   ·have hej := List.getElem?_eq_getElem hj
    rw [hA j _ hej] at he
    cases he
    refine ⟨fun _ => hentnew j _ hej, fun p hp => ?_⟩
    rw [hρκ j hj] at hp
    have hjp : pins.length ≤ j := by
     rw [hρ] at hk
     rcases bK_spec pins es'.length st.ep i j with ⟨k, h1, h2, h3⟩ | ⟨h1, h2, h3⟩ | ⟨h1, h2, h3⟩
     ·rw [h2] at hk; exact absurd hk (hpold k (List.mem_of_getElem? (hpk j k h1)))
     ·exact h1
     ·omega
    rcases oown j p _ hp hej with h | ⟨m, q, e0, h1, h2, h3, h4⟩
    ·exact .inl h
    ·right
     obtain ⟨k0, e00, q1, q2, rfl⟩ := entsOf_back hes h2
     have h1' := h1
     rw [hκc m k0 q1] at h1'
     refine ⟨k0, q, e00, h1', h3, q2, ?_, ?_⟩
     ·intro hf; rw [ren_fz] at hf; have := h4 hf; rwa [ren_fz] at this
     ·-- the old key is gone
      by_cases hmp : m < pins.length
      ·exfalso
       have hml : m < es'.length := by omega
       have := oinj m j q p _ _ ((opin m hmp).trans h1) hp (List.getElem?_eq_getElem hml) hej h3
       omega
      ·have hk0o : k0 ∈ owns := by
        rw [hkpo, List.getElem?_append_right (by omega)] at q1
        exact List.mem_of_getElem? q1
       have hk0 : k0 ∈ ks := List.mem_of_getElem? q1
       have hno : ∀ j', j' < es'.length → k0 ≠ ρ j' := by
        intro j' hj' h
        rw [hρ] at h
        rcases bK_spec pins es'.length st.ep i j' with ⟨k, g1, g2, g3⟩ | ⟨g1, g2, g3⟩ | ⟨g1, g2, g3⟩
        ·rw [g2] at h; subst h
         have := nodup_get hknd (hpk j' _ g1) q1
         omega
        ·rw [g3] at h; exact hpold k0 hk0 (by rw [h]; exact mk_div _ _ _ (by omega))
        ·omega
       rw [hB k0 hno, if_pos hk0o]
   ·rw [hB k hno] at he
    split at he <;> try contradiction
    rcases hFRget k with h | ⟨e1, h1, _, _⟩
    ·rw [h, fresh_none hR hi hd hk] at he; cases he
    ·rw [fresh_none hR hi hd hk] at h1; cases h1
  ·intro k j p q e f' hk hj hp hq he hf hpq
   rcases himg k with ⟨j1, hj1, rfl⟩ | hno
   ·rcases himg j with ⟨j2, hj2, rfl⟩ | hno2
    ·rw [hρκ _ hj1] at hp
     rw [hρκ _ hj2] at hq
     rw [oinj j1 j2 p q _ _ hp hq (List.getElem?_eq_getElem hj1) (List.getElem?_eq_getElem hj2) hpq]
    ·rw [hB j hno2] at hf
     split at hf <;> try contradiction
     rcases hFRget j with h | ⟨e1, h1, _, _⟩
     ·rw [h, fresh_none hR hi hd hj] at hf; cases hf
     ·rw [fresh_none hR hi hd hj] at h1; cases h1
   ·rw [hB k hno] at he
    split at he <;> try contradiction
    rcases hFRget k with h | ⟨e1, h1, _, _⟩
    ·rw [h, fresh_none hR hi hd hk] at he; cases he
    ·rw [fresh_none hR hi hd hk] at h1; cases h1
 have hS := hR.turn (D' := i :: D) U (fun k hk => hk.notFresh hi hd) (fun k hk => hk.cons) (fun k hk => hk) (fun k hk => known_new hk)
 have hvr : RelV E2 tb' w' v rv := by rw [hv]; exact X2.relV hflatv oval
 have hvk : ∀ k ∈ keysOf v, Known st.ep (i :: D) k := by
  intro k hk
  rw [hv, ren_keys] at hk
  obtain ⟨j, _, rfl⟩ := List.mem_map.1 hk
  exact hρknown j
 have hfin := hS.put' hvr hvk o.dst
 rw [htb'] at hfin
 refine hK rv w' E2 hfin (by rw [hE2]; rfl) (by rw [hE2]; rfl) hE2old ?_
 intro k e' he hk
 rw [← htb'] at he
 obtain ⟨e, q1, q2, q3, _⟩ := U.old k e' he hk
 exact ⟨e, q1, q2, q3⟩
end
end Go.Ab
