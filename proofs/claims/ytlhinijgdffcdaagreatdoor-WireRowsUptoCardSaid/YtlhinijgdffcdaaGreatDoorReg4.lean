/- Regions whose order is drawn: the walk. -/
import Derived.Test.YtlhinijgdffcdaaGreatDoorReg3
namespace Go.Ab
open Go
set_option linter.unusedVariables false
set_option linter.unusedSimpArgs false
section
variable {E : Env} {w0 : World} {own0 : Nat → Bool → Prop} {C : Ctx} {raw : FuncId → Bool} {all : Array Oper} {ocs : List Oc} {st st' : St} {rs : List Rec} {B : List Nat}
structure Drawn (C : Ctx) (raw : FuncId → Bool) (all : Array Oper) (B : List Nat) (st : St) (rs : List Rec) (ocs : List Oc) : Prop where
 back : backOk 0 all.toList = true
 bef : befOk B all.toList B = true
 temps : tempsOk B all.toList = true
 draw : drawOk B rs = true
 facts : ∀ (j : Nat) (o : Oper), all.toList[j]? = some o → ∃ oc, ocs[j]? = some oc ∧ At C raw all true rs j o (foldSt all.toList ocs (fun _ => true) st j) oc
def Closed (B : List Nat) (Dn : Nat → Bool) : Prop := ∀ j, Dn j = true → ∀ i, Bef B j i → Dn i = true
theorem ordered_symm {i j : Nat} : ordered B i j = ordered B j i := by unfold ordered; rw [Bool.or_comm]
theorem unord {Dn : Nat → Bool} (hb : backOk 0 all.toList = true) (hB : befOk B all.toList B = true) (hc : Closed B Dn) {j i : Nat} (hj : Dn j = false) (hr : ∀ i, Bef B j i → Dn i = true)
  (hi : (i < j ∧ Dn i = false) ∨ (j < i ∧ Dn i = true)) : ordered B i j = false := by
 unfold ordered
 rw [Bool.or_eq_false_iff]
 rcases hi with ⟨h1, h2⟩ | ⟨h1, h2⟩
 ·constructor
  ·cases hh : (B.getD j 0).testBit i with
   | false => rfl
   | true => have := hr i hh; rw [h2] at this; cases this
  ·cases hh : (B.getD i 0).testBit j with
   | false => rfl
   | true => have := bef_lt hb hB hh; omega
 ·constructor
  ·cases hh : (B.getD j 0).testBit i with
   | false => rfl
   | true => have := bef_lt hb hB hh; omega
  ·cases hh : (B.getD i 0).testBit j with
   | false => rfl
   | true => have := hc i h2 j hh; rw [hj] at this; cases this
theorem Drawn.keys (H : Drawn C raw all B st rs ocs) {i j : Nat} {o : Oper} {oc ox : Oc} (hx : ocs[i]? = some ox) (hi : i < all.toList.length) (ho : all.toList[j]? = some o) (hoc : ocs[j]? = some oc)
  (hij : i ≠ j) (hu : ordered B i j = false) : ∀ k ∈ ox.writes, (∀ v ef, oc = .done v ef → k ∉ readsOf o (foldSt all.toList ocs (fun _ => true) st j)) ∧ k ∉ oc.writes := by
 intro k hk
 obtain ⟨ox', q1, q2⟩ := H.facts i _ (List.getElem?_eq_getElem hi)
 rw [hx] at q1; cases q1
 obtain ⟨oc', r1, r2⟩ := H.facts j o ho
 rw [hoc] at r1; cases r1
 cases ox with
 | skip => cases hk
 | done vx efx =>
  have m1 := q2.2.2 _ (recOf_mem _ _ _ _)
  cases oc with
  | skip => exact ⟨fun v ef h => (nomatch h), List.not_mem_nil⟩
  | done v ef =>
   have m2 := r2.2.2 _ (recOf_mem _ _ _ _)
   have := draw_keys H.draw m1 m2 hij hu k hk
   exact ⟨fun _ _ _ => this.1, this.2⟩
theorem Drawn.same (H : Drawn C raw all B st rs ocs) {Dn : Nat → Bool} (hc : Closed B Dn) {j : Nat} {o : Oper} {oc : Oc} (ho : all.toList[j]? = some o) (hoc : ocs[j]? = some oc) (hj : Dn j = false) (hr : ∀ i, Bef B j i → Dn i = true) :
  (∀ d ∈ namesOf all.toList o, (foldSt all.toList ocs Dn st all.toList.length).sl.getD d .junk = (foldSt all.toList ocs (fun _ => true) st j).sl.getD d .junk) ∧
  (∀ v ef, oc = .done v ef → ∀ k ∈ readsOf o (foldSt all.toList ocs (fun _ => true) st j), (foldSt all.toList ocs Dn st all.toList.length).tb k = (foldSt all.toList ocs (fun _ => true) st j).tb k) := by
 have hjl : j < all.toList.length := (List.getElem?_eq_some_iff.1 ho).1
 have hst : foldSt all.toList ocs (fun _ => true) st j = foldSt all.toList ocs (fun i => decide (i < j)) st all.toList.length := by
  rw [fold_stop j all.toList.length (Dn := fun i => decide (i < j)) (fun i h1 h2 => by simpa using h1) (by omega)]
  exact fold_same j fun i hi => by simp [hi]
 have hdiff : ∀ i, Dn i ≠ decide (i < j) → (i < j ∧ Dn i = false) ∨ (j < i ∧ Dn i = true) := by
  intro i hi
  by_cases h1 : i < j
  ·left; refine ⟨h1, ?_⟩
   rw [decide_eq_true h1] at hi
   simpa using hi
  ·right
   rw [decide_eq_false h1] at hi
   have h2 : Dn i = true := by simpa using hi
   refine ⟨?_, h2⟩
   have : i ≠ j := by intro hh; subst hh; rw [hj] at h2; cases h2
   omega
 constructor
 ·intro d hd
  rw [hst]
  refine agree_slot _ fun i hi hne p hp hdst => ?_
  have h1 := hdiff i hne
  have hij : i ≠ j := by omega
  exact temps_get H.temps hp hdst ho hij (unord H.back H.bef hc hj hr h1) hd
 ·intro v ef hdo k hk
  conv => rhs; rw [hst]
  refine agree_key _ fun i hi hne ox hox hkw => ?_
  have h1 := hdiff i hne
  have hij : i ≠ j := by omega
  exact (H.keys hox hi ho hoc hij (unord H.back H.bef hc hj hr h1) k hkw).1 v ef hdo hk
theorem Drawn.add (H : Drawn C raw all B st rs ocs) {Dn Dn' : Nat → Bool} (hc : Closed B Dn) {j : Nat} {o : Oper} {oc : Oc} (ho : all.toList[j]? = some o) (hoc : ocs[j]? = some oc) (hj : Dn j = false) (hr : ∀ i, Bef B j i → Dn i = true)
  (hD : ∀ i, Dn' i = (Dn i || decide (i = j))) : stepSt o (foldSt all.toList ocs Dn st all.toList.length) oc = foldSt all.toList ocs Dn' st all.toList.length := by
 have hjl : j < all.toList.length := (List.getElem?_eq_some_iff.1 ho).1
 refine fold_add ho hoc hj hD ?_ _ hjl
 intro i hi hdi p q hp hq
 have hil : i < all.toList.length := (List.getElem?_eq_some_iff.1 hp).1
 have hu := unord H.back H.bef hc hj hr (i := i) (.inr ⟨hi, hdi⟩)
 constructor
 ·intro t ht hpt
  refine temps_get H.temps ho ht hp (by omega) (by rw [ordered_symm]; exact hu) ?_
  unfold namesOf
  simp [hpt]
 ·intro k hk
  exact (H.keys hoc hjl hp hq (by omega) (by rw [ordered_symm]; exact hu) k hk).2
theorem Drawn.closed (H : Drawn C raw all B st rs ocs) {Dn Dn' : Nat → Bool} (hc : Closed B Dn) {j : Nat} (hr : ∀ i, Bef B j i → Dn i = true) (hD : ∀ i, Dn' i = (Dn i || decide (i = j))) : Closed B Dn' := by
 intro a ha i hi
 rw [hD] at ha ⊢
 rw [Bool.or_eq_true] at ha ⊢
 left
 rcases ha with ha | ha
 ·exact hc a ha i hi
 ·rw [decide_eq_true_eq] at ha; subst ha; exact hr i hi
theorem ready_bef (hb : backOk 0 all.toList = true) (hB : befOk B all.toList B = true) {listed : Array Bool} (hc : Closed B fun i => listed.getD i false) {j : Nat} (h : j ∈ Region.ready .any all listed) :
  j < all.size ∧ listed.getD j true = false ∧ ∀ i, Bef B j i → listed.getD i false = true := by
 unfold Region.ready at h
 rw [List.mem_filter, List.mem_range, Bool.and_eq_true, Bool.not_eq_true'] at h
 obtain ⟨h1, h2, h3⟩ := h
 refine ⟨h1, h2, fun i hi => ?_⟩
 obtain ⟨o, q1, e, q2, hb2, q3, q4⟩ := bef_edge hb hB hi
 rw [Array.getElem?_toList] at q1
 rw [q1] at h3
 simp only [Option.map_some, Option.getD_some, Array.all_eq_true_iff_forall_mem, Bool.or_eq_true, Bool.not_eq_true'] at h3
 have h4 : listed.getD e.on false = true := by
  rcases h3 e (by simpa using q2) with h | h
  ·rw [hb2] at h; cases h
  ·exact h
 rcases q4 with q4 | q4
 ·rw [← q4]; exact h4
 ·exact hc e.on h4 i q4
theorem ready_nil (hb : backOk 0 all.toList = true) {listed : Array Bool} (hs : listed.size = all.size) (h : Region.ready .any all listed = []) : ∀ j, j < all.size → listed.getD j false = true := by
 intro j
 induction j using Nat.strongRecOn with
 | _ j ih =>
  intro hj
  have hjl : j < listed.size := by omega
  cases hh : listed.getD j false with
  | true => rfl
  | false =>
   have : j ∈ Region.ready .any all listed := by
    unfold Region.ready
    rw [List.mem_filter, List.mem_range, Bool.and_eq_true, Bool.not_eq_true']
    refine ⟨hj, ?_, ?_⟩
    ·rw [Array.getD_eq_getD_getElem?, Array.getElem?_eq_getElem hjl] at hh ⊢
     exact hh
    ·rw [Array.getElem?_eq_getElem hj]
     simp only [Option.map_some, Option.getD_some, Array.all_eq_true_iff_forall_mem, Bool.or_eq_true, Bool.not_eq_true']
     intro e he
     cases hbe : Region.binds .any e with
     | false => exact .inl rfl
     | true =>
     right
     have := backOk_get hb (j := j) (o := all[j]) (by rw [Array.getElem?_toList, Array.getElem?_eq_getElem hj]) e (by simpa using he) hbe
     exact ih e.on (by omega) (by omega)
   rw [h] at this; cases this
theorem count_less {listed : Array Bool} {j : Nat} (hj : j < listed.size) (h : listed.getD j true = false) : (listed.setIfInBounds j true).toList.count false + 1 = listed.toList.count false := by
 have hf : listed.toList[j]'(by simpa using hj) = false := by
  rw [Array.getD_eq_getD_getElem?, Array.getElem?_eq_getElem hj] at h
  simpa using h
 have hpos : 0 < listed.toList.count false := List.count_pos_iff.2 (hf ▸ List.getElem_mem _)
 rw [Array.toList_setIfInBounds, List.count_set (by simpa using hj), hf]
 simp only [beq_self_eq_true, if_true]
 have : (true == false) = false := rfl
 rw [this]
 simp only [Bool.false_eq_true, if_false]
 omega
theorem getD_listed {listed : Array Bool} {j : Nat} (hj : j < listed.size) (i : Nat) : (listed.setIfInBounds j true).getD i false = (listed.getD i false || decide (i = j)) := by
 rw [Array.getD_eq_getD_getElem?, Array.getD_eq_getD_getElem?, Array.getElem?_setIfInBounds]
 by_cases h : j = i
 ·subst h; simp [hj]
 ·rw [if_neg h]
  have : decide (i = j) = false := by simp; exact fun q => h q.symm
  rw [this, Bool.or_false]
theorem Drawn.walk (H : Drawn C raw all B st rs ocs) (hend : foldSt all.toList ocs (fun _ => true) st all.toList.length = st') (hgl : E.gl = C.glob) (hep : 1 ≤ st.ep) (hnp : st.np < 64) {a : Act} {Q : Exit → Act → World → Prop}
  (hQ : ∀ E' a' w' D', RelSt E' w0 own0 st' D' a'.tmps w' → (∀ d ∈ D', d < 4096) → a'.defers = a.defers → Later st.np E st.tb E' st'.tb → Q .normal a' w') :
  ∀ (fuel : Nat) (listed : Array Bool) (E' : Env) (Dl : List Nat) (a' : Act) (w' : World), listed.size = all.size → (Closed B fun i => listed.getD i false) →
   RelSt E' w0 own0 (foldSt all.toList ocs (fun i => listed.getD i false) st all.toList.length) Dl a'.tmps w' → (∀ d ∈ Dl, listed.getD d false = true ∧ d < 4096) → a'.defers = a.defers →
   Later st.np E st.tb E' (foldSt all.toList ocs (fun i => listed.getD i false) st all.toList.length).tb → listed.toList.count false ≤ fuel → wpAny C.P .any all Q fuel listed a' w' := by
 have fin : ∀ (listed : Array Bool) (E' : Env) (Dl : List Nat) (a' : Act) (w' : World), listed.size = all.size → 
   RelSt E' w0 own0 (foldSt all.toList ocs (fun i => listed.getD i false) st all.toList.length) Dl a'.tmps w' → (∀ d ∈ Dl, listed.getD d false = true ∧ d < 4096) → a'.defers = a.defers →
   Later st.np E st.tb E' (foldSt all.toList ocs (fun i => listed.getD i false) st all.toList.length).tb → Region.ready .any all listed = [] → Q .normal a' w' := by
  intro listed E' Dl a' w' hs hR hD hdf hl hr
  have hall := ready_nil H.back hs hr
  have he : foldSt all.toList ocs (fun i => listed.getD i false) st all.toList.length = st' := by
   rw [← hend]
   exact fold_same _ fun i hi => hall i (by simpa using hi)
  rw [he] at hR hl
  exact hQ E' a' w' Dl hR (fun d hd => (hD d hd).2) hdf hl
 intro fuel
 induction fuel with
 | zero =>
  intro listed E' Dl a' w' hs hc hR hD hdf hl hf
  have hr : Region.ready .any all listed = [] := by
   rw [List.eq_nil_iff_forall_not_mem]
   intro j hj
   obtain ⟨h1, h2, _⟩ := ready_bef H.back H.bef hc hj
   have := count_less (by omega) h2
   omega
  exact ⟨hr, fin listed E' Dl a' w' hs hR hD hdf hl hr⟩
 | succ fuel ih =>
  intro listed E' Dl a' w' hs hc hR hD hdf hl hf
  refine ⟨fun hr => fin listed E' Dl a' w' hs hR hD hdf hl hr, fun j hj => ?_⟩
  obtain ⟨h1, h2, h3⟩ := ready_bef H.back H.bef hc hj
  have hjl : j < listed.size := by omega
  have hj0 : listed.getD j false = false := by
   rw [Array.getD_eq_getD_getElem?, Array.getElem?_eq_getElem hjl] at h2 ⊢
   exact h2
  have hset := getD_listed hjl
  have hcount := count_less hjl h2
  have ho : all.toList[j]? = some all[j] := by rw [Array.getElem?_toList, Array.getElem?_eq_getElem h1]
  obtain ⟨oc, hoc, hat⟩ := H.facts j _ ho
  obtain ⟨s1, s2⟩ := H.same hc ho hoc hj0 h3
  have hadd := H.add hc ho hoc hj0 h3 hset
  have hc' := H.closed hc h3 hset
  have hjD : j ∉ Dl := by intro h; have := (hD j h).1; rw [hj0] at this; cases this
  unfold wpOp
  rw [Array.getElem?_eq_getElem h1]
  simp only
  cases oc with
  | skip =>
   have hg : guardS all all[j] (foldSt all.toList ocs (fun i => listed.getD i false) st all.toList.length) = some false := by
    rw [guardS_congr s1]; exact hat
   rw [wanted_of hR hg]
   simp only [Bool.false_eq_true, if_false]
   have h1' := hR.put' (s := .tup []) (v := undef) relV_tup_nil (by simp [keysOf, keysOfL]) all[j].dst
   have hst : (⟨setDst (foldSt all.toList ocs (fun i => listed.getD i false) st all.toList.length).sl all[j].dst (.tup []), (foldSt all.toList ocs (fun i => listed.getD i false) st all.toList.length).tb,
    (foldSt all.toList ocs (fun i => listed.getD i false) st all.toList.length).ep, (foldSt all.toList ocs (fun i => listed.getD i false) st all.toList.length).np⟩ : St) = foldSt all.toList ocs (fun i => (listed.setIfInBounds j true).getD i false) st all.toList.length := hadd
   rw [hst] at h1'
   refine ih _ E' Dl _ w' (by simpa using hs) hc' h1' (fun d hd => ⟨by rw [hset]; rw [(hD d hd).1]; rfl, (hD d hd).2⟩) (by rw [put_defers]; exact hdf) ?_ (by omega)
   have : (foldSt all.toList ocs (fun i => (listed.setIfInBounds j true).getD i false) st all.toList.length).tb = (foldSt all.toList ocs (fun i => listed.getD i false) st all.toList.length).tb := by rw [← hst]
   rw [this]; exact hl
  | done v ef =>
   obtain ⟨hg, hd, _⟩ := hat
   have hg' : guardS all all[j] (foldSt all.toList ocs (fun i => listed.getD i false) st all.toList.length) = some true := by
    rw [guardS_congr s1]; exact hg
   rw [wanted_of hR hg']
   simp only [if_true]
   left
   have hd' : Did C raw j all[j] (foldSt all.toList ocs (fun i => listed.getD i false) st all.toList.length) v ef :=
    hd.congr s1 (s2 v ef rfl) (by rw [foldSt_ep, foldSt_ep])
   have hgl' : E'.gl = C.glob := hl.gl.trans hgl
   refine hd'.does hgl' hR hjD (by rw [foldSt_ep]; exact hep) _ Q ?_
   intro u w'' E'' q1 q2 q3 q4 q5
   have hst : (⟨setDst (foldSt all.toList ocs (fun i => listed.getD i false) st all.toList.length).sl all[j].dst v, (foldSt all.toList ocs (fun i => listed.getD i false) st all.toList.length).tb.sets ef,
    (foldSt all.toList ocs (fun i => listed.getD i false) st all.toList.length).ep, (foldSt all.toList ocs (fun i => listed.getD i false) st all.toList.length).np⟩ : St) = foldSt all.toList ocs (fun i => (listed.setIfInBounds j true).getD i false) st all.toList.length := hadd
   have hlat := step_later (v := v) (by rw [foldSt_np]; exact hnp) (by rw [foldSt_ep]; exact hep) q2 q3 q4 q5
   rw [hst] at q1
   have htb : (foldSt all.toList ocs (fun i => listed.getD i false) st all.toList.length).tb.sets ef = (foldSt all.toList ocs (fun i => (listed.setIfInBounds j true).getD i false) st all.toList.length).tb := by rw [← hst]
   rw [htb, foldSt_np] at hlat
   refine ih _ E'' (j :: Dl) _ w'' (by simpa using hs) hc' q1 ?_ (by rw [put_defers]; exact hdf) (hl.trans hlat) (by omega)
   intro d hd2
   rw [hset]
   rcases List.mem_cons.1 hd2 with rfl | hd2
   ·exact ⟨by simp, hd.lt⟩
   ·exact ⟨by rw [(hD d hd2).1]; rfl, (hD d hd2).2⟩
end
end Go.Ab
