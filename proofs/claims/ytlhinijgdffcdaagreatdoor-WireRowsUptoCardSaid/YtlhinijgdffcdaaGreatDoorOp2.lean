/- Operations that make new memory. -/
import Derived.Test.YtlhinijgdffcdaaGreatDoorZero
namespace Go.Ab
open Go
set_option linter.unusedVariables false
set_option linter.unusedSimpArgs false
mutual
def ZeroS : S → Prop
  | .arr n e xs => xs = List.replicate n e.zero
  | .st fs => ZeroL fs
  | _ => True
def ZeroL : List S → Prop
  | [] => True
  | f :: r => ZeroS f ∧ ZeroL r
end
mutual
theorem zeroOf_zero (P : Program) : ∀ (n : Nat) (t : TypeId) {s : S}, zeroOf P n t = some s → ZeroS s
  | 0, t, s, h => by simp [zeroOf] at h
  | n + 1, t, s, h => by
    simp only [zeroOf] at h
    split at h
    all_goals try contradiction
    all_goals try (cases h; trivial)
    · simp only [Option.some.injEq] at h
      subst h
      split <;> trivial
    · rename_i len e _
      cases he : tyOf P n e with
      | none => simp [he] at h
      | some e' => simp [he] at h; subst h; simp [ZeroS]
    · rename_i fs _
      cases he : zeroFs P n fs.toList with
      | none => simp [he] at h
      | some l => simp [he] at h; subst h; simp only [ZeroS]; exact zeroFs_zero P n _ he
theorem zeroFs_zero (P : Program) : ∀ (n : Nat) (l : List Field) {s : List S}, zeroFs P n l = some s → ZeroL s
  | 0, l, s, h => by simp [zeroFs] at h
  | n + 1, [], s, h => by simp [zeroFs] at h; subst h; trivial
  | n + 1, f :: r, s, h => by
    simp only [zeroFs] at h
    cases h1 : zeroOf P n f.type with
    | none => simp [h1] at h
    | some a =>
      cases h2 : zeroFs P n r with
      | none => simp [h1, h2] at h
      | some b =>
        simp [h1, h2] at h; subst h
        exact ⟨zeroOf_zero P n _ h1, zeroFs_zero P n r h2⟩
end
section
variable {E : Env} {tb : Tbl} {w : World}
mutual
theorem isZS_rel : ∀ (s : S) {cs : List Value}, ZeroS s → isZS s cs = true → Rel E tb w s cs ∧ keysOf s = [] ∧ plain s = true
  | .st fs, cs, hz, h => by
    simp only [isZS] at h
    simp only [ZeroS] at hz
    simp only [Rel, keysOf, plain]
    exact isZL_rel fs hz h
  | .arr n e xs, cs, hz, h => by
    simp only [isZS] at h
    simp only [ZeroS] at hz
    subst hz
    exact ⟨isZ_rt (t := .arr n e) h, rfl, rfl⟩
  | .int k n, cs, hz, h => by
    unfold isZS at h; split at h <;> try contradiction
    rename_i heq; cases heq
    simp at h; obtain ⟨⟨rfl, rfl⟩, rfl⟩ := h
    exact ⟨⟨rfl, by rw [inK_iff]; exact inK_zero _⟩, rfl, rfl⟩
  | .bool b, cs, hz, h => by
    unfold isZS at h; split at h <;> try contradiction
    rename_i heq; cases heq
    simp at h; obtain ⟨rfl, rfl⟩ := h
    exact ⟨rfl, rfl, rfl⟩
  | .str s, cs, hz, h => by
    unfold isZS at h; split at h <;> try contradiction
    rename_i heq; cases heq
    simp at h
    exact ⟨⟨_, rfl, by simp [bytesL, h], by simp⟩, rfl, rfl⟩
  | .nilsl, cs, hz, h => by
    unfold isZS at h; split at h <;> try contradiction
    exact ⟨⟨none, rfl⟩, rfl, rfl⟩
  | .nilp, cs, hz, h => by unfold isZS at h; split at h <;> try contradiction
                           exact ⟨rfl, rfl, rfl⟩
  | .nilmp, cs, hz, h => by unfold isZS at h; split at h <;> try contradiction
                            exact ⟨rfl, rfl, rfl⟩
  | .nilfn, cs, hz, h => by unfold isZS at h; split at h <;> try contradiction
                            exact ⟨rfl, rfl, rfl⟩
  | .nili, cs, hz, h => by unfold isZS at h; split at h <;> try contradiction
                           exact ⟨rfl, rfl, rfl⟩
  | .err x, cs, hz, h => by
    unfold isZS at h
    split at h <;> try contradiction
    all_goals (rename_i heq; cases heq)
    exact ⟨rfl, rfl, rfl⟩
  | .junk, cs, hz, h | .sl .., cs, hz, h | .own .., cs, hz, h | .twn .., cs, hz, h | .ptr .., cs, hz, h | .iref .., cs, hz, h | .gptr .., cs, hz, h | .fn .., cs, hz, h | .iface .., cs, hz, h | .mp _, cs, hz, h | .tup _, cs, hz, h => by
    simp [isZS] at h
theorem isZL_rel : ∀ (l : List S) {cs : List Value}, ZeroL l → isZL l cs = true → RelL E tb w l cs ∧ keysOfL l = [] ∧ plainL l = true
  | [], cs, hz, h => by
    cases cs with
    | nil => exact ⟨rfl, rfl, rfl⟩
    | cons => simp [isZL] at h
  | f :: r, cs, hz, h => by
    simp only [isZL, Bool.and_eq_true] at h
    obtain ⟨a1, a2, a3⟩ := isZS_rel f hz.1 h.1
    obtain ⟨b1, b2, b3⟩ := isZL_rel r hz.2 h.2
    exact ⟨⟨_, _, (List.take_append_drop f.size cs).symm, a1, b1⟩, by simp [keysOfL, a2, b2], by simp [plainL, a3, b3]⟩
end
theorem zeroC_rel {P : Program} {t : TypeId} {s : S} (h : zeroC P t = some s) :
    ∃ z : Value, (zeroValue t).run P w = .ok z w ∧ (∃ inf, P.info? t = some inf ∧ inf.zero = some z) ∧ Rel E tb w s z.cells.toList ∧ keysOf s = [] ∧ plain s = true ∧ ZeroS s := by
  unfold zeroC at h
  split at h <;> try contradiction
  rename_i s' i h1 h2
  split at h <;> try contradiction
  rename_i z hz
  split at h <;> try contradiction
  rename_i hs
  cases h
  obtain ⟨a, b, c⟩ := isZS_rel (E := E) (tb := tb) (w := w) s (zeroOf_zero P _ _ h1) hs
  refine ⟨z, ?_, ⟨i, h2, hz⟩, a, b, c, zeroOf_zero P _ _ h1⟩
  unfold zeroValue typeInfo
  simp only [Sem.run_bind, run_program, Result.andThen, h2, Sem.run_pure, hz]
end
theorem upd_new {E : Env} {t : Nat} {f : Nat → Option (Nat × Nat)} {k : Nat} (h : k / 64 = t) : (E.upd t f).κ k = f (k % 64) := by
  show (if k / 64 = t then f (k % 64) else E.κ k) = _
  rw [if_pos h]
theorem upd_old {E : Env} {t : Nat} {f : Nat → Option (Nat × Nat)} {k : Nat} (h : k / 64 ≠ t) : (E.upd t f).κ k = E.κ k := by
  show (if k / 64 = t then f (k % 64) else E.κ k) = _
  rw [if_neg h]
theorem push_lt {w : World} {o : Obj} {b : Nat} (h : b < w.heap.size) : ({ w with heap := w.heap.push o } : World).heap[b]? = w.heap[b]? := by
  rw [Array.getElem?_push]; split <;> first | omega | rfl
theorem push_eq {w : World} {o : Obj} : ({ w with heap := w.heap.push o } : World).heap[w.heap.size]? = some o := by
  rw [Array.getElem?_push]; simp
theorem push_lies {w : World} {cs : Array Value} {el : TypeId} {f : Nat × Nat} : Lies ({ w with heap := w.heap.push (.cells cs el f) } : World) w.heap.size 0 cs.toList := by
  intro i v h
  unfold World.cell?
  simp only [push_eq, Nat.zero_add]
  simpa using h
section
variable {E : Env} {w0 : World} {own0 : Nat → Bool → Prop} {st : St} {D : List Nat} {a : Act} {w : World} {C : Ctx} {o : Oper} {i : Nat} {r : OpR}
theorem RelSt.put' {D' : List Nat} {tb' : Tbl} {E' : Env} {w' : World} {sl : List S} (h : RelSt E' w0 own0 ⟨sl, tb', st.ep, st.np⟩ D' a.tmps w') {s : S} {v : Value} (hv : RelV E' tb' w' s v)
    (hk : ∀ k ∈ keysOf s, Known st.ep D' k) (d : Option Tmp) :
    RelSt E' w0 own0 ⟨setDst sl d s, tb', st.ep, st.np⟩ D' (a.put d v).tmps w' := by
  cases d with
  | none => exact h
  | some d =>
    refine ⟨by simpa [setDst, Act.put] using h.size, fun j => ?_, h.ent, h.inj, h.hist, h.own, h.ownm, fun j k hj => ?_, h.keyT, h.keyE, h.glob, h.avlt⟩
    · simp only [setDst, Act.put]
      rw [getD_set, getD_setA, h.size]
      split
      · exact hv
      · exact h.slot j
    · simp only [setDst] at hj
      rw [getD_set] at hj
      split at hj
      · exact hk k hj
      · exact h.keyS j k hj
theorem known_new {ep d : Nat} {D : List Nat} {k : Nat} (h : k / 64 = ep * 4096 + d) : Known ep (d :: D) k := .inr ⟨d, List.mem_cons_self, h⟩
theorem turn_new {L : List (Nat × Option Ent)} {f : Nat → Option (Nat × Nat)} {w' : World}
    (hR : RelSt E w0 own0 st D a.tmps w) (hi : i ∉ D) (hd : i < 4096)
    (hs : w.heap.size ≤ w'.heap.size) (ho : w'.os = w.os) (htp : w'.tape = w.tape) (hou : w'.output = w.output)
    (hb : ∀ b, b < w.heap.size → w'.heap[b]? = w.heap[b]?)
    (hL : ∀ p ∈ L, p.1 / 64 = st.ep * 4096 + i)
    (hf : ∀ j p, f j = some p → w.heap.size ≤ p.1)
    (hap : ∀ j k p q, f j = some p → f k = some q → p.1 = q.1 → j = k)
    (hnew : ∀ k e, (k, some e) ∈ L → st.tb.sets L k = some e → (Moves (fun k => k / 64 = st.ep * 4096 + i) E st.tb w (E.upd (st.ep * 4096 + i) f) (st.tb.sets L) w' →
      RelE (E.upd (st.ep * 4096 + i) f) (st.tb.sets L) w' k e ∧ ∀ j ∈ e.keys, Known st.ep (i :: D) j)) :
    Turn E w0 own0 st w (st.ep * 4096 + i) (Known st.ep (i :: D)) (fun _ => False) (E.upd (st.ep * 4096 + i) f) (st.tb.sets L) w' := by
  have hfresh : ∀ k e, st.tb k = some e → k / 64 ≠ st.ep * 4096 + i := fun k e he => (hR.keyT k e he).notFresh hi hd
  refine ⟨hs, ho, htp, hou, fun b h => h.elim, fun b h _ => hb b h, fun b o h => h.elim, fun b o h => h.elim, fun k hk => by simp [Env.upd, hk], rfl, rfl, ?_, ?_, ?_⟩
  · intro k e' he hk
    rw [sets_other L st.tb (fun p hp h => hk (by rw [← h]; exact hL p hp))] at he
    exact ⟨e', he, SameForm.refl, id, .inl ⟨rfl, fun _ _ h => h⟩⟩
  · intro k e' he hk
    rcases sets_cases L st.tb k with h | ⟨_, h⟩
    · rw [he] at h
      refine ⟨hnew k e' h he, fun p hp => .inl ?_⟩
      simp only [Env.upd, hk, if_true] at hp
      exact hf _ _ hp
    · rw [h] at he; exact absurd hk (hfresh k e' he)
  · intro k j p q e f' hk hj hp hq _ _ hpq
    simp only [Env.upd, hk, hj, if_true] at hp hq
    have := hap _ _ p q hp hq hpq
    omega
theorem turn_good {E' : Env} {T : Nat → Prop} {ef : List (Nat × Option Ent)} {w' : World} {u : Value} {s : S}
    (hR : RelSt E w0 own0 st D a.tmps w) (hi : i ∉ D) (hd : i < 4096)
    (U : Turn E w0 own0 st w (st.ep * 4096 + i) (Known st.ep (i :: D)) T E' (st.tb.sets ef) w')
    (hrun : (execOp a.eval o).run C.P w = .ok (.value u) w' ∨ ((execOp a.eval o).run C.P w = .ok .skip w' ∧ u = undef))
    (hv : Moves (fun k => k / 64 = st.ep * 4096 + i) E st.tb w E' (st.tb.sets ef) w' → RelV E' (st.tb.sets ef) w' s u ∧ ∀ k ∈ keysOf s, Known st.ep (i :: D) k) :
    OpGood C.P E w0 own0 st D i o s ef a w := by
  have hS := hR.turn (D' := i :: D) U (fun k hk => hk.notFresh hi hd) (fun k hk => hk.cons) (fun k hk => hk) (fun k hk => known_new hk)
  obtain ⟨h1, h2⟩ := hv (U.moves hR)
  exact ⟨u, w', E', hrun, hS.put' h1 h2 o.dst, U.av, U.gl, U.κ, fun k e' he hk => by obtain ⟨e, q1, q2, q3, _⟩ := U.old k e' he hk; exact ⟨e, q1, q2, q3⟩⟩
theorem opS_lt {ev : Operand → S} {tb : Tbl} (h : opS C o st.ep i ev tb = some r) : i < 4096 := by
  unfold opS at h
  by_cases hd : i < 4096
  · exact hd
  · simp [hd] at h
theorem mk_known {ep d : Nat} {D : List Nat} {j : Nat} (h : j < 64) : Known ep (d :: D) (mk ep d j) := known_new (mk_div ep d j h)
theorem opS_move {x : Operand} (hR : RelSt E w0 own0 st D a.tmps w) (hi : i ∉ D)
    (ho : o.op = .move x ∨ o.op = .assign x) (hpu : o.op = .assign x → puOf C o.dst = false) (h : opS C o st.ep i (evalS st.sl) st.tb = some r) :
    OpGood C.P E w0 own0 st D i o r.v r.ef a w := by
  have hx := hR.eval x
  have hk := hR.evalKeys x
  have hd := opS_lt h
  have hr : r = ⟨[], (nilOwn C.P st.ep i o.type (evalS st.sl x) 0).1, (nilOwn C.P st.ep i o.type (evalS st.sl x) 0).2.1⟩ := by
    unfold opS at h
    rcases ho with ho | ho
    · rw [ho] at h; simp [hd] at h; exact h.symm
    · have hp := hpu ho
      rw [ho] at h; simp [hd, hp] at h; exact h.symm
  subst hr
  obtain ⟨n1, n2, n3⟩ := nilOwn_keys C.P st.ep i (evalS st.sl x) o.type 0
  have hL : ∀ p ∈ (nilOwn C.P st.ep i o.type (evalS st.sl x) 0).2.1, p.1 / 64 = st.ep * 4096 + i := by
    intro p hp
    obtain ⟨j, e, rfl, _, h3⟩ := n3.1 p hp
    exact mk_div _ _ _ (by have := n2 (by omega); omega)
  refine turn_good (C := C) (E' := E.upd (st.ep * 4096 + i) fun _ => none) (w' := w) (u := a.eval x) hR hi hd
    (turn_new hR hi hd (Nat.le_refl _) rfl rfl rfl (fun _ _ => rfl) hL (by simp) (by simp) ?_) (.inl ?_) ?_
  · intro k e he ht M
    obtain ⟨j, e', h1, _, _⟩ := n3.1 _ he
    simp only [Prod.mk.injEq, Option.some.injEq] at h1
    obtain ⟨rfl, rfl⟩ := h1
    have hkk := hL _ he
    exact ⟨⟨by simp, by simp [Env.upd, hkk]⟩, by simp [Ent.keys]⟩
  · unfold execOp; rcases ho with ho | ho <;> rw [ho] <;> rfl
  · intro M
    have hkn : ∀ k e, (k, some e) ∈ (nilOwn C.P st.ep i o.type (evalS st.sl x) 0).2.1 → (st.tb.sets (nilOwn C.P st.ep i o.type (evalS st.sl x) 0).2.1) k = some e ∧
        (E.upd (st.ep * 4096 + i) fun _ => none).κ k = none := by
      intro k e he
      have h2 := hL _ he
      have h3 := n3.2 _ _ _ (sets_mem _ st.tb ⟨_, he⟩) he
      exact ⟨h3, by simp only [Env.upd]; rw [if_pos h2]⟩
    obtain ⟨q1, q2⟩ := nilOwn_relV M C.P st.ep i (evalS st.sl x) o.type 0 (v := a.eval x) hkn (fun k hk' => (hk k hk').notFresh hi hd) hx
    refine ⟨q1, fun k hk' => ?_⟩
    rcases q2 k hk' with h | ⟨j, hj, rfl⟩
    · exact (hk k h).cons
    · exact mk_known (by omega)
theorem box_good {t : TypeId} {s : S} {cs : Array Value} {el : TypeId} (hR : RelSt E w0 own0 st D a.tmps w) (hi : i ∉ D) (hd : i < 4096)
    (hrun : (execOp a.eval o).run C.P w = .ok (.value (.pointer (some ⟨w.heap.size, 0, none⟩))) { w with heap := w.heap.push (.cells cs el) })
    (hs : Rel E st.tb w s cs.toList) (hk : ∀ k ∈ keysOf s, Known st.ep D k) (hp : plain s = true) :
    OpGood C.P E w0 own0 st D i o (.ptr (mk st.ep i 0) []) ((nilOwn C.P st.ep i t s 1).2.1 ++ [(mk st.ep i 0, some (.box (nilOwn C.P st.ep i t s 1).1 false))]) a w := by
  obtain ⟨n1, n2, n3⟩ := nilOwn_keys C.P st.ep i s t 1
  have hm0 : mk st.ep i 0 / 64 = st.ep * 4096 + i := mk_div _ _ _ (by omega)
  have hL0 : ∀ p ∈ (nilOwn C.P st.ep i t s 1).2.1, p.1 / 64 = st.ep * 4096 + i ∧ p.1 % 64 ≠ 0 := by
    intro p hp
    obtain ⟨j, e, rfl, h2, h3⟩ := n3.1 p hp
    have := n2 (by omega)
    exact ⟨mk_div _ _ _ (by omega), by rw [mk_mod _ _ _ (by omega)]; omega⟩
  have hne : ∀ p ∈ (nilOwn C.P st.ep i t s 1).2.1, p.1 ≠ mk st.ep i 0 := by
    intro p hp h
    have := (hL0 p hp).2
    rw [h, mk_mod _ _ _ (by omega)] at this
    omega
  have hlast : st.tb.sets ((nilOwn C.P st.ep i t s 1).2.1 ++ [(mk st.ep i 0, some (.box (nilOwn C.P st.ep i t s 1).1 false))]) (mk st.ep i 0) = some (.box (nilOwn C.P st.ep i t s 1).1 false) := by
    rw [sets_append]; exact set_eq _ _ _
  have hkn : ∀ k e, (k, some e) ∈ (nilOwn C.P st.ep i t s 1).2.1 → st.tb.sets ((nilOwn C.P st.ep i t s 1).2.1 ++ [(mk st.ep i 0, some (.box (nilOwn C.P st.ep i t s 1).1 false))]) k = some e := by
    intro k e he
    rw [sets_append, Tbl.sets, Tbl.sets, set_ne _ (hne _ he)]
    exact n3.2 _ _ _ (sets_mem _ st.tb ⟨_, he⟩) he
  refine turn_good (C := C) (E' := E.upd (st.ep * 4096 + i) fun j => if j = 0 then some (w.heap.size, 0) else none) (w' := { w with heap := w.heap.push (.cells cs el) }) hR hi hd
    (turn_new hR hi hd (by simp) rfl rfl rfl (fun b hb => push_lt hb) ?_ ?_ ?_ ?_) (.inl hrun) ?_
  · intro p hp
    rcases List.mem_append.1 hp with hp | hp
    · exact (hL0 p hp).1
    · simp at hp; subst hp; exact hm0
  · intro j p h; split at h <;> simp at h; subst h; exact Nat.le_refl _
  · intro j k p q h1 h2 _; split at h1 <;> split at h2 <;> first | omega | (simp at h1 h2)
  · intro k e he ht M
    rcases List.mem_append.1 he with he' | he'
    · obtain ⟨j, e', h1, h2, _⟩ := n3.1 _ he'
      simp only [Prod.mk.injEq, Option.some.injEq] at h1
      obtain ⟨h1, rfl⟩ := h1
      have h3 := hL0 _ he'
      have h4 : (E.upd (st.ep * 4096 + i) fun j => if j = 0 then some (w.heap.size, 0) else none).κ k = none := by
        rw [upd_new h3.1, if_neg h3.2]
      exact ⟨⟨by simp, by rw [h4]⟩, by simp [Ent.keys]⟩
    · simp at he'
      obtain ⟨rfl, rfl⟩ := he'
      have hκ : (E.upd (st.ep * 4096 + i) fun j => if j = 0 then some (w.heap.size, 0) else none).κ (mk st.ep i 0) = some (w.heap.size, 0) := by
        rw [upd_new hm0, mk_mod _ _ _ (by omega), if_pos rfl]
      obtain ⟨q1, q2⟩ := nilOwn_rel M C.P st.ep i s t 1 (fun k e he => ⟨hkn k e he, by rw [upd_new (hL0 _ he).1, if_neg (hL0 _ he).2]⟩) (fun k hk' => (hk k hk').notFresh hi hd) hs
      refine ⟨⟨w.heap.size, cs.toList, hκ, by simp, push_lies, q1, by rw [(nilOwn_form C.P st.ep i s t 1).2.2]; exact hp, fun _ => ⟨cs, el, 0, 0, push_eq, .inl rfl⟩, fun _ h => ?_⟩, fun k hk' => ?_⟩
      · have := hR.avlt _ _ h; omega
      · rcases q2 k hk' with h | ⟨j, hj, rfl⟩
        · exact (hk k h).cons
        · exact mk_known (by omega)
  · intro M
    refine ⟨?_, fun k hk' => by simp [keysOf] at hk'; subst hk'; exact mk_known (by omega)⟩
    rw [relV_scalar rfl]
    simp only [Rel, hlast]
    refine ⟨by simp [pathE, pathS], w.heap.size, 0, ?_, by simp [offE, offS]⟩
    rw [upd_new hm0, mk_mod _ _ _ (by omega), if_pos rfl]
theorem opS_alloc {t : TypeId} (hR : RelSt E w0 own0 st D a.tmps w) (hi : i ∉ D)
    (ho : o.op = .alloc t) (h : opS C o st.ep i (evalS st.sl) st.tb = some r) :
    OpGood C.P E w0 own0 st D i o r.v r.ef a w := by
  have hd := opS_lt h
  unfold opS at h
  rw [ho] at h
  simp [hd] at h
  split at h <;> try contradiction
  rename_i s hz
  simp at h; subst h
  obtain ⟨z, h1, _, h3, h4, h5, _⟩ := zeroC_rel (E := E) (tb := st.tb) (w := w) hz
  refine box_good (cs := z.cells) (el := t) hR hi hd ?_ h3 (by simp [h4]) h5
  unfold execOp
  rw [ho]
  simp only [Instr.alloc, Sem.run_bind, h1, Result.andThen, newVar, newRow, run_newObj, Sem.run_pure]
theorem cells_rel {E : Env} {tb : Tbl} {w : World} {s : S} {v : Value} (h : RelV E tb w s v) (hp : plain s = true) : Rel E tb w s v.cells.toList := by
  unfold RelV at h
  split at h
  · obtain ⟨a, rfl, h⟩ := h; exact h
  · have := Rel.one hp h v (by simp)
    cases v <;> first | exact h | simp [Value.oneCell'] at this
theorem opS_box {t : TypeId} {x : Operand} (hR : RelSt E w0 own0 st D a.tmps w) (hi : i ∉ D)
    (ho : o.op = .box t x) (h : opS C o st.ep i (evalS st.sl) st.tb = some r) :
    OpGood C.P E w0 own0 st D i o r.v r.ef a w := by
  have hd := opS_lt h
  have hx := hR.eval x
  unfold opS at h
  rw [ho] at h
  simp [hd] at h
  obtain ⟨hp, rfl⟩ := h
  refine box_good (cs := (a.eval x).cells) (el := t) hR hi hd ?_ (cells_rel hx hp) (hR.evalKeys x) hp
  unfold execOp
  rw [ho]
  simp only [Instr.box, Sem.run_bind, Result.andThen, newVar, newRow, run_newObj, Sem.run_pure]
end
end Go.Ab
