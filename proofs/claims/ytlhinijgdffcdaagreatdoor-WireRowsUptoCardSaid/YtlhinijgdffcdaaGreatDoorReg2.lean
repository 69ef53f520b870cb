/- Regions whose order is drawn. -/
import Derived.Test.YtlhinijgdffcdaaGreatDoorReg
import Derived.Orders
namespace Go.Ab
open Go
set_option linter.unusedVariables false
set_option linter.unusedSimpArgs false
def foldSt (ops : List Oper) (ocs : List Oc) (Dn : Nat → Bool) (s0 : St) : Nat → St
  | 0 => s0
  | m + 1 =>
    if Dn m then
      match ops[m]?, ocs[m]? with
      | some o, some oc => stepSt o (foldSt ops ocs Dn s0 m) oc
      | _, _ => foldSt ops ocs Dn s0 m
    else foldSt ops ocs Dn s0 m
def Oc.writes : Oc → List Nat
  | .skip => []
  | .done _ ef => ef.map (·.1)
section
variable {C : Ctx} {raw : FuncId → Bool} {all : Array Oper} {draw : Bool} {ops : List Oper} {ocs : List Oc} {Dn Dn' : Nat → Bool} {s0 : St}
def At (C : Ctx) (raw : FuncId → Bool) (all : Array Oper) (draw : Bool) (rs : List Rec) (i : Nat) (o : Oper) (s : St) : Oc → Prop
  | .skip => guardS all o s = some false
  | .done v ef => guardS all o s = some true ∧ Did C raw i o s v ef ∧ ∀ rc ∈ recOf draw i o s ef, rc ∈ rs
theorem foldT_cons {o : Oper} {oc : Oc} (m : Nat) : foldSt (o :: ops) (oc :: ocs) (fun _ => true) s0 (m + 1) = foldSt ops ocs (fun _ => true) (stepSt o s0 oc) m := by
  induction m with
  | zero => rfl
  | succ m ih =>
    rw [foldSt, if_pos rfl, ih]
    rw [foldSt, if_pos rfl]
    simp only [List.getElem?_cons_succ]
theorem path_recs {l : List Oper} {i : Nat} {st st' : St} {rs rs' : List Rec} (h : Path C raw all draw l i st rs ocs st' rs') : ∀ r ∈ rs, r ∈ rs' := by
  induction h with
  | nil => exact fun r h => h
  | done hg hd h ih => exact fun r hr => ih r (List.mem_append.2 (.inl hr))
  | skip hg h ih => exact ih
theorem path_facts {l : List Oper} {i : Nat} {st st' : St} {rs rs' : List Rec} (h : Path C raw all draw l i st rs ocs st' rs') :
    ocs.length = l.length ∧ foldSt l ocs (fun _ => true) st l.length = st' ∧
    ∀ j o, l[j]? = some o → ∃ oc, ocs[j]? = some oc ∧ At C raw all draw rs' (i + j) o (foldSt l ocs (fun _ => true) st j) oc := by
  induction h with
  | nil => exact ⟨rfl, rfl, fun j o h => by simp at h⟩
  | done hg hd h ih =>
    obtain ⟨h1, h2, h3⟩ := ih
    refine ⟨by simp [h1], ?_, ?_⟩
    · rw [List.length_cons, foldT_cons]; exact h2
    · intro j o hj
      cases j with
      | zero =>
        simp only [List.getElem?_cons_zero, Option.some.injEq] at hj
        subst hj
        exact ⟨_, rfl, hg, hd, fun rc hrc => path_recs h rc (List.mem_append.2 (.inr hrc))⟩
      | succ j =>
        rw [List.getElem?_cons_succ] at hj
        obtain ⟨oc, q1, q2⟩ := h3 j o hj
        refine ⟨oc, by simpa using q1, ?_⟩
        rw [foldT_cons]
        have : ∀ x : Nat, x + (j + 1) = x + 1 + j := by omega
        rw [this]; exact q2
  | skip hg h ih =>
    obtain ⟨h1, h2, h3⟩ := ih
    refine ⟨by simp [h1], ?_, ?_⟩
    · rw [List.length_cons, foldT_cons]; exact h2
    · intro j o hj
      cases j with
      | zero =>
        simp only [List.getElem?_cons_zero, Option.some.injEq] at hj
        subst hj
        exact ⟨_, rfl, hg⟩
      | succ j =>
        rw [List.getElem?_cons_succ] at hj
        obtain ⟨oc, q1, q2⟩ := h3 j o hj
        refine ⟨oc, by simpa using q1, ?_⟩
        rw [foldT_cons]
        have : ∀ x : Nat, x + (j + 1) = x + 1 + j := by omega
        rw [this]; exact q2
theorem sets_self : ∀ (l : List (Nat × Option Ent)) {t t' : Tbl} {k : Nat}, t k = t' k → t.sets l k = t'.sets l k
  | [], t, t', k, h => h
  | (j, e) :: r, t, t', k, h => by
    simp only [Tbl.sets]
    apply sets_self r
    unfold Tbl.set
    split
    · rfl
    · exact h
theorem sets_out {l : List (Nat × Option Ent)} {t : Tbl} {k : Nat} (h : k ∉ l.map (·.1)) : t.sets l k = t k :=
  sets_other l t fun p hp hk => h (List.mem_map.2 ⟨p, hp, hk⟩)
theorem setDst_len (sl : List S) (d : Option Tmp) (v : S) : (setDst sl d v).length = sl.length := by cases d <;> simp [setDst]
theorem stepSt_len (o : Oper) (s : St) (oc : Oc) : (stepSt o s oc).sl.length = s.sl.length := by cases oc <;> exact setDst_len _ _ _
theorem stepSt_ep (o : Oper) (s : St) (oc : Oc) : (stepSt o s oc).ep = s.ep := by cases oc <;> rfl
theorem stepSt_np (o : Oper) (s : St) (oc : Oc) : (stepSt o s oc).np = s.np := by cases oc <;> rfl
theorem foldSt_len (m : Nat) : (foldSt ops ocs Dn s0 m).sl.length = s0.sl.length := by
  induction m with
  | zero => rfl
  | succ m ih => rw [foldSt]; split <;> (try split) <;> simp [stepSt_len, ih]
theorem foldSt_ep (m : Nat) : (foldSt ops ocs Dn s0 m).ep = s0.ep := by
  induction m with
  | zero => rfl
  | succ m ih => rw [foldSt]; split <;> (try split) <;> simp [stepSt_ep, ih]
theorem foldSt_np (m : Nat) : (foldSt ops ocs Dn s0 m).np = s0.np := by
  induction m with
  | zero => rfl
  | succ m ih => rw [foldSt]; split <;> (try split) <;> simp [stepSt_np, ih]
theorem step_slot {o : Oper} {oc : Oc} {s : St} {d : Nat} (h : o.dst ≠ some d) : (stepSt o s oc).sl.getD d .junk = s.sl.getD d .junk := by
  cases oc <;> (
    simp only [stepSt, setDst]
    split
    · rename_i d' hd
      rw [getD_set, if_neg]
      intro hh
      exact h (by rw [hd, hh.1])
    · rfl)
theorem step_slot2 {o : Oper} {oc : Oc} {s s' : St} {d : Nat} (hl : s.sl.length = s'.sl.length) (h : s.sl.getD d .junk = s'.sl.getD d .junk) : (stepSt o s oc).sl.getD d .junk = (stepSt o s' oc).sl.getD d .junk := by
  cases oc <;> (
    simp only [stepSt, setDst]
    split
    · rw [getD_set, getD_set, hl, h]
    · exact h)
theorem step_key {o : Oper} {oc : Oc} {s : St} {k : Nat} (h : k ∉ oc.writes) : (stepSt o s oc).tb k = s.tb k := by
  cases oc with
  | skip => rfl
  | done v ef => exact sets_out h
theorem step_key2 {o : Oper} {oc : Oc} {s s' : St} {k : Nat} (h : s.tb k = s'.tb k) : (stepSt o s oc).tb k = (stepSt o s' oc).tb k := by
  cases oc with
  | skip => exact h
  | done v ef => exact sets_self ef h
theorem agree_slot {d : Nat} : ∀ (m : Nat), (∀ i, i < m → Dn i ≠ Dn' i → ∀ o, ops[i]? = some o → o.dst ≠ some d) →
    (foldSt ops ocs Dn s0 m).sl.getD d .junk = (foldSt ops ocs Dn' s0 m).sl.getD d .junk
  | 0, _ => rfl
  | m + 1, h => by
    have ih := agree_slot m fun i hi => h i (by omega)
    have hm := h m (by omega)
    simp only [foldSt]
    cases h1 : ops[m]? with
    | none => simp only [ite_self]; exact ih
    | some o =>
      cases h2 : ocs[m]? with
      | none => simp only [ite_self]; exact ih
      | some oc =>
        simp only
        by_cases hd : Dn m = Dn' m
        · rw [hd]
          split
          · exact step_slot2 (by rw [foldSt_len, foldSt_len]) ih
          · exact ih
        · have hq := hm hd o h1
          split <;> split <;> first | exact ih | (simp_all; done) | (rw [step_slot hq]; exact ih)
theorem agree_key {k : Nat} : ∀ (m : Nat), (∀ i, i < m → Dn i ≠ Dn' i → ∀ oc, ocs[i]? = some oc → k ∉ oc.writes) →
    (foldSt ops ocs Dn s0 m).tb k = (foldSt ops ocs Dn' s0 m).tb k
  | 0, _ => rfl
  | m + 1, h => by
    have ih := agree_key m fun i hi => h i (by omega)
    have hm := h m (by omega)
    simp only [foldSt]
    cases h1 : ops[m]? with
    | none => simp only [ite_self]; exact ih
    | some o =>
      cases h2 : ocs[m]? with
      | none => simp only [ite_self]; exact ih
      | some oc =>
        simp only
        by_cases hd : Dn m = Dn' m
        · rw [hd]
          split
          · exact step_key2 ih
          · exact ih
        · have hq := hm hd oc h2
          split <;> split <;> first | exact ih | (simp_all; done) | (rw [step_key hq]; exact ih)
theorem fold_same : ∀ (m : Nat), (∀ i, i < m → Dn i = Dn' i) → foldSt ops ocs Dn s0 m = foldSt ops ocs Dn' s0 m
  | 0, _ => rfl
  | m + 1, h => by
    have ih := fold_same m fun i hi => h i (by omega)
    simp only [foldSt, ih, h m (by omega)]
theorem fold_stop : ∀ (m n : Nat), (∀ i, m ≤ i → i < n → Dn i = false) → m ≤ n → foldSt ops ocs Dn s0 n = foldSt ops ocs Dn s0 m
  | m, 0, _, hmn => by have : m = 0 := by omega
                       subst this; rfl
  | m, n + 1, h, hmn => by
    by_cases hh : m = n + 1
    · subst hh; rfl
    · rw [foldSt, h n (by omega) (by omega)]
      simp only [Bool.false_eq_true, if_false]
      exact fold_stop m n (fun i h1 h2 => h i h1 (by omega)) (by omega)
theorem setDst_comm {sl : List S} {d d' : Option Tmp} {v v' : S} (h : ∀ t, d = some t → d' ≠ some t) : setDst (setDst sl d v) d' v' = setDst (setDst sl d' v') d v := by
  cases d with
  | none => rfl
  | some t =>
    cases d' with
    | none => rfl
    | some t' =>
      have : t ≠ t' := by intro hh; subst hh; exact h t rfl rfl
      exact List.set_comm _ _ this
def Oc.val : Oc → S
  | .skip => .tup []
  | .done v _ => v
def Oc.efs : Oc → List (Nat × Option Ent)
  | .skip => []
  | .done _ ef => ef
theorem stepSt_eq (o : Oper) (s : St) (oc : Oc) : stepSt o s oc = ⟨setDst s.sl o.dst oc.val, s.tb.sets oc.efs, s.ep, s.np⟩ := by cases oc <;> rfl
theorem Oc.writes_eq (oc : Oc) : oc.writes = oc.efs.map (·.1) := by cases oc <;> rfl
theorem step_comm {o p : Oper} {s : St} {x y : Oc} (hd : ∀ t, o.dst = some t → p.dst ≠ some t) (hw : ∀ k, k ∈ x.writes → k ∉ y.writes) : stepSt p (stepSt o s x) y = stepSt o (stepSt p s y) x := by
  rw [stepSt_eq p, stepSt_eq o s, stepSt_eq o, stepSt_eq p s]
  simp only [St.mk.injEq, and_self, and_true]
  refine ⟨setDst_comm hd, ?_⟩
  funext k
  by_cases hk : k ∈ x.writes
  · have h1 : k ∉ y.efs.map (·.1) := by rw [← Oc.writes_eq]; exact hw k hk
    rw [sets_out h1]
    exact sets_self _ (sets_out h1).symm
  · have h1 : k ∉ x.efs.map (·.1) := by rw [← Oc.writes_eq]; exact hk
    rw [sets_out h1]
    exact sets_self _ (sets_out h1)
theorem fold_add {j : Nat} {o : Oper} {oc : Oc} (ho : ops[j]? = some o) (hoc : ocs[j]? = some oc) (hj : Dn j = false) (hD : ∀ i, Dn' i = (Dn i || decide (i = j)))
    (hc : ∀ i, j < i → Dn i = true → ∀ p q, ops[i]? = some p → ocs[i]? = some q → (∀ t, o.dst = some t → p.dst ≠ some t) ∧ (∀ k, k ∈ oc.writes → k ∉ q.writes)) :
    ∀ m, j < m → stepSt o (foldSt ops ocs Dn s0 m) oc = foldSt ops ocs Dn' s0 m := by
  intro m
  induction m with
  | zero => intro h; omega
  | succ m ih =>
    intro hm
    by_cases hh : j = m
    · subst hh
      simp only [foldSt, ho, hoc, hj, hD j, decide_true, Bool.or_true, if_true, Bool.false_eq_true, if_false]
      rw [fold_same (Dn := Dn) (Dn' := Dn') j]
      intro i hi
      rw [hD i]
      have : decide (i = j) = false := by simp; omega
      rw [this, Bool.or_false]
    · have ih := ih (by omega)
      have hdm : Dn' m = Dn m := by
        rw [hD m]
        have : decide (m = j) = false := by simp; omega
        rw [this, Bool.or_false]
      simp only [foldSt, hdm]
      split
      · rename_i hd
        cases h1 : ops[m]? with
        | none => exact ih
        | some p =>
          cases h2 : ocs[m]? with
          | none => exact ih
          | some q =>
            simp only
            obtain ⟨q1, q2⟩ := hc m (by omega) hd p q h1 h2
            rw [← ih]
            refine step_comm ?_ ?_
            · intro t ht hh; exact q1 t hh ht
            · intro k hk hk'; exact q2 k hk' hk
      · exact ih
end
end Go.Ab
