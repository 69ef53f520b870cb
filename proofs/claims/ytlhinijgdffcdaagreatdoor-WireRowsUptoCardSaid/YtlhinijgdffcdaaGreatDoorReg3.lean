/- Regions whose order is drawn: any order leaves the same. -/
import Derived.Test.YtlhinijgdffcdaaGreatDoorReg2
namespace Go.Ab
open Go
set_option linter.unusedVariables false
set_option linter.unusedSimpArgs false
def Bef (B : List Nat) (j i : Nat) : Prop := (B.getD j 0).testBit i = true
theorem orAft_bit {B : List Nat} {i : Nat} : ∀ {l : List Edge}, (orAft B l).testBit i = true → ∃ e ∈ l, Region.binds .any e = true ∧ (e.on = i ∨ Bef B e.on i)
 | [], h => by simp [orAft] at h
 | e :: r, h => by
  simp only [orAft, Nat.testBit_or, Bool.or_eq_true] at h
  rcases h with h | h
  ·split at h
   ·rename_i hb
    rw [Nat.testBit_or, Bool.or_eq_true, Nat.testBit_two_pow, decide_eq_true_eq] at h
    exact ⟨e, by simp, hb, h⟩
   ·simp at h
  ·obtain ⟨e', h1, h2⟩ := orAft_bit h
   exact ⟨e', by simp [h1], h2⟩
theorem befOk_get {B : List Nat} {i : Nat} : ∀ {l : List Oper} {ms : List Nat} {j m : Nat}, befOk B l ms = true → ms[j]? = some m → m.testBit i = true →
  ∃ o, l[j]? = some o ∧ ∃ e ∈ o.after.toList, Region.binds .any e = true ∧ (e.on = i ∨ Bef B e.on i)
 | [], [], j, m, _, h, _ => by simp at h
 | [], _ :: _, _, _, h, _, _ => by simp [befOk] at h
 | o :: l, [], _, _, _, h, _ => by simp at h
 | o :: l, x :: ms, j, m, h, hj, hm => by
  simp only [befOk, Bool.and_eq_true, decide_eq_true_eq] at h
  cases j with
  | zero =>
   simp only [List.getElem?_cons_zero, Option.some.injEq] at hj
   subst hj
   refine ⟨o, rfl, orAft_bit ?_⟩
   rw [← h.1, Nat.testBit_or, hm, Bool.or_true]
  | succ j =>
   rw [List.getElem?_cons_succ] at hj
   obtain ⟨o', h1, h2⟩ := befOk_get h.2 hj hm
   exact ⟨o', by simpa using h1, h2⟩
theorem backOk_get : ∀ {l : List Oper} {k j : Nat} {o : Oper}, backOk k l = true → l[j]? = some o → ∀ e ∈ o.after.toList, Region.binds .any e = true → e.on < k + j
 | [], _, _, _, _, h => by simp at h
 | p :: l, k, j, o, h, hj => by
  simp only [backOk, Bool.and_eq_true, List.all_eq_true, decide_eq_true_eq, Bool.or_eq_true, Bool.not_eq_true'] at h
  cases j with
  | zero =>
   simp only [List.getElem?_cons_zero, Option.some.injEq] at hj
   subst hj
   intro e he hb
   rcases h.1 e he with h1 | h1
   ·rw [hb] at h1; cases h1
   ·exact h1
  | succ j =>
   rw [List.getElem?_cons_succ] at hj
   intro e he hb
   have := backOk_get h.2 hj e he hb
   omega
theorem bef_edge {B : List Nat} {ops : List Oper} (hb : backOk 0 ops = true) (hB : befOk B ops B = true) {j i : Nat} (h : Bef B j i) :
  ∃ o, ops[j]? = some o ∧ ∃ e ∈ o.after.toList, Region.binds .any e = true ∧ e.on < j ∧ (e.on = i ∨ Bef B e.on i) := by
 unfold Bef at h
 cases hm : B[j]? with
 | none => rw [List.getD_eq_getElem?_getD, hm] at h; simp at h
 | some m =>
  rw [List.getD_eq_getElem?_getD, hm] at h
  obtain ⟨o, h1, e, h2, h3, h4⟩ := befOk_get hB hm (i := i) (by simpa using h)
  exact ⟨o, h1, e, h2, h3, by have := backOk_get hb h1 e h2 h3; omega, h4⟩
theorem bef_lt {B : List Nat} {ops : List Oper} (hb : backOk 0 ops = true) (hB : befOk B ops B = true) : ∀ {j i : Nat}, Bef B j i → i < j := by
 intro j
 induction j using Nat.strongRecOn with
 | _ j ih =>
  intro i h
  obtain ⟨o, _, e, _, _, h1, h2⟩ := bef_edge hb hB h
  rcases h2 with h2 | h2
  ·omega
  ·have := ih e.on h1 h2; omega
theorem temps_get {B : List Nat} {ops : List Oper} (h : tempsOk B ops = true) {i j : Nat} {p o : Oper} {d : Tmp} (hi : ops[i]? = some p) (hd : p.dst = some d) (hj : ops[j]? = some o) (hij : i ≠ j)
  (hu : ordered B i j = false) : d ∉ namesOf ops o := by
 unfold tempsOk at h
 rw [List.all_eq_true] at h
 have hil : i < ops.length := (List.getElem?_eq_some_iff.1 hi).1
 have hjl : j < ops.length := (List.getElem?_eq_some_iff.1 hj).1
 have := h i (List.mem_range.2 hil)
 have hdo : dstOf ops i = some d := by unfold dstOf; rw [hi]; exact hd
 rw [hdo] at this
 simp only [List.all_eq_true] at this
 have := this j (List.mem_range.2 hjl)
 rw [hj, hu] at this
 simpa [hij] using this
def readsOf (o : Oper) (s : St) : List Nat :=
 match lookOf o.op with
 | .nothing => []
 | .entry => keysOfL (o.op.operands.toList.map (evalS s.sl))
 | .deep => reach s.tb 4 (addAll [] (keysOfL (o.op.operands.toList.map (evalS s.sl))))
theorem recOf_mem (i : Nat) (o : Oper) (s : St) (ef : List (Nat × Option Ent)) : (⟨i, readsOf o s, ef.map (·.1)⟩ : Rec) ∈ recOf true i o s ef := by
 unfold recOf readsOf
 simp only [if_true]
 cases lookOf o.op <;> simp
theorem meets_of {a b : List Nat} (h : meets a b = false) : ∀ k ∈ a, k ∉ b := by
 intro k hk hb
 unfold meets at h
 rw [List.any_eq_false] at h
 exact h k hk (by simpa using hb)
theorem recsOk_get {B : List Nat} {rs : List Rec} : ∀ {l : List Rec}, recsOk B rs l = true → ∀ x ∈ l, x.quiet = true ∨ ∀ y ∈ rs, x.i = y.i ∨ (clash x y = false ∧ clash y x = false) ∨ ordered B x.i y.i = true
 | [], _, x, hx => by cases hx
 | z :: l, h, x, hx => by
  simp only [recsOk, Bool.and_eq_true, Bool.or_eq_true, List.all_eq_true, decide_eq_true_eq, Bool.not_eq_true', Bool.or_eq_false_iff] at h
  rcases List.mem_cons.1 hx with rfl | hx
  ·rcases h.1 with h1 | h1
   ·exact .inl h1
   ·refine .inr fun y hy => ?_
    rcases h1 y hy with (h2 | h2) | h2
    ·exact .inl h2
    ·exact .inr (.inl h2)
    ·exact .inr (.inr h2)
  ·exact recsOk_get h.2 x hx
theorem draw_keys {B : List Nat} {rs : List Rec} (h : drawOk B rs = true) {x y : Rec} (hx : x ∈ rs) (hy : y ∈ rs) (hi : x.i ≠ y.i) (hu : ordered B x.i y.i = false) : ∀ k ∈ x.writes, k ∉ y.reads ∧ k ∉ y.writes := by
 intro k hk
 have hq : ∀ z : Rec, z.quiet = true → z.writes = [] := by intro z hz; simpa [Rec.quiet] using hz
 unfold drawOk at h
 rw [Bool.or_eq_true, List.all_eq_true] at h
 rcases h with h | h
 ·rw [hq x (h x hx)] at hk; cases hk
 ·rcases recsOk_get h x hx with h | h
  ·rw [hq x h] at hk; cases hk
  ·rcases h y hy with h | h | h
   ·exact absurd h hi
   ·have := meets_of h.1 k hk
    rw [List.mem_append] at this
    exact ⟨fun q => this (.inl q), fun q => this (.inr q)⟩
   ·rw [hu] at h; cases h
section
variable {C : Ctx} {raw : FuncId → Bool} {all : Array Oper} {o : Oper} {s s' : St} {i : Nat}
theorem guardS_congr (h : ∀ d ∈ namesOf all.toList o, s'.sl.getD d .junk = s.sl.getD d .junk) : guardS all o s' = guardS all o s := by
 unfold guardS
 split
 ·rfl
 ·rename_i j want hg
  split
  ·rename_i d hd
   rw [h d]
   unfold namesOf
   rw [hg]
   simp only [List.mem_append, dstOf, Array.getElem?_toList, hd]
   right; simp
  ·rfl
theorem evalS_congr {x : Operand} (hx : x ∈ o.op.operands.toList) (h : ∀ d ∈ namesOf all.toList o, s'.sl.getD d .junk = s.sl.getD d .junk) : evalS s'.sl x = evalS s.sl x := by
 cases x <;> first | rfl | skip
 rename_i t
 have := h t ?_
 ·simpa [evalS] using this
 ·unfold namesOf
  simp only [List.mem_append, List.mem_filterMap]
  left; right
  exact ⟨_, hx, rfl⟩
theorem Did.congr {v : S} {ef : List (Nat × Option Ent)} (hs : ∀ d ∈ namesOf all.toList o, s'.sl.getD d .junk = s.sl.getD d .junk) (hk : ∀ k ∈ readsOf o s, s'.tb k = s.tb k) (hep : s'.ep = s.ep)
  (h : Did C raw i o s v ef) : Did C raw i o s' v ef := by
 cases h with
 | @op r h hg =>
  refine .op ?_ hg
  rw [hep, ← h]
  refine opS_congr (fun x hx => evalS_congr hx hs) ?_
  intro hl k hk'
  refine hk k ?_
  unfold readsOf
  rw [hl]; exact hk'
 | @call fo ags tys f cap v' ef' fn as es v2 es2 ho hf H =>
  have hmem : fo ∈ o.op.operands.toList ∧ ∀ x ∈ ags.toList, x ∈ o.op.operands.toList := by
   rw [ho]
   simp [Op.operands, Call.operands]
   exact fun x hx => .inr hx
  have hev : ags.toList.map (evalS s'.sl) = ags.toList.map (evalS s.sl) := List.map_congr_left fun x hx => evalS_congr (hmem.2 x hx) hs
  refine Did.call (fn := fn) (as := as) (es := es) (v' := v2) (es' := es2) ho (by rw [evalS_congr hmem.1 hs]; exact hf) ?_
  rw [hev, hep]
  refine H.congr (B := keysOfL (o.op.operands.toList.map (evalS s.sl))) ?_ ?_
  ·intro k hk'
   rw [keysL_append, List.mem_append] at hk'
   rcases hk' with hk' | hk'
   ·have aux : ∀ (l : List Operand), (∀ x ∈ l, x ∈ o.op.operands.toList) → k ∈ keysOfL (l.map (evalS s.sl)) → k ∈ keysOfL (o.op.operands.toList.map (evalS s.sl)) := by
     intro l
     induction l with
     | nil => intro _ h; cases h
     | cons x r ih =>
      intro h1 h2
      simp only [List.map_cons, keysOfL, List.mem_append] at h2
      rcases h2 with h2 | h2
      ·exact keysL_mem (List.mem_map.2 ⟨x, h1 x (by simp), rfl⟩) k h2
      ·exact ih (fun y hy => h1 y (by simp [hy])) h2
    exact aux _ hmem.2 hk'
   ·refine keysL_mem (List.mem_map.2 ⟨fo, hmem.1, rfl⟩) k ?_
    rw [hf]; simpa [keysOf] using hk'
  ·intro k hk'
   refine hk k ?_
   unfold readsOf
   have : lookOf o.op = .deep := by rw [ho]; rfl
   rw [this]; exact hk'
end
end Go.Ab
