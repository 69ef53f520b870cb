/- Composite values, bytes of a text, new maps. -/
import Derived.Test.YtlhinijgdffcdaaGreatDoorOp8
namespace Go.Ab
open Go
set_option linter.unusedVariables false
set_option linter.unusedSimpArgs false
section
variable {E : Env} {w0 : World} {own0 : Nat → Bool → Prop} {st : St} {D : List Nat} {a : Act} {w : World} {C : Ctx} {o : Oper} {i : Nat} {r : OpR}
theorem parts_list (ρ : Operand → Value) (ps : Array (Nat × Operand)) : (ps.map fun (i, x) => (i, ρ x)).toList = ps.toList.map fun q => (q.1, ρ q.2) := by simp
theorem RelSt.bufs (hR : RelSt E w0 own0 st D a.tmps w) : ∀ k e xs fz, st.tb k = some (.buf e xs fz) → RelE E st.tb w k (.buf e xs fz) := fun k e xs fz h => hR.ent k _ h
theorem opS_buildSlice {t : TypeId} {n : Nat} {ps : Array (Nat × Operand)} (hR : RelSt E w0 own0 st D a.tmps w) (hi : i ∉ D) (ho : o.op = .buildSlice t n ps)
  (h : opS C o st.ep i (evalS st.sl) st.tb = some r) : OpGood C.P E w0 own0 st D i o r.v r.ef a w := by
 have hd := opS_lt h
 unfold opS at h
 rw [ho] at h
 simp only [hd, decide_true, Bool.not_true, Bool.false_eq_true, if_false] at h
 split at h <;> try contradiction
 rename_i e he
 split at h <;> try contradiction
 rename_i hn
 cases hp : addParts C st.tb e (evalS st.sl) ps.toList (List.replicate n e.zero) with
 | none => simp [hp] at h
 | some xs =>
  simp only [hp, Option.bind_some, Option.some.injEq] at h; subst h
  obtain ⟨et, hu, hel⟩ := sliceC_spec he
  obtain ⟨inf, z, hinf, hz, hzz, hsz, hpos, hb1, hb2⟩ := elemC_spec hel
  have hmade : ∀ (w' : World) (ok : Ty → Nat → Prop), Rt w' ok (.arr n e) (madeCells z.cells (n * e.size)).toList (List.replicate n e.zero) := by
   intro w' ok
   obtain ⟨rest, q1, q2⟩ := madeCells_rt (w := w') (ok := ok) hzz hpos n n (Nat.le_refl _)
   have hl := q2.length
   have hl2 : (madeCells z.cells (n * e.size)).toList.length = n * e.size := by simp [madeCells]
   rw [q1, List.length_append, hl] at hl2
   have hr : rest = [] := List.length_eq_zero_iff.1 (by simp only [Ty.size] at hl2; omega)
   rw [q1, hr, List.append_nil]; exact q2
  obtain ⟨cs', hfill, hrt⟩ := addParts_rt (w := w) (w' := w) (ok := fun _ _ => True) (P := C.P) hR.bufs hR.eval (fun _ b _ hb => ⟨trivial, hb⟩) (fun _ _ _ _ _ h => h) (n := n) ps.toList _ (madeCells z.cells (n * e.size))
   (fun k _ e p h1 h2 => ⟨fun _ => trivial, (hR.ent k e h1).lt h2, fun _ _ h => h⟩) hp (hmade w _)
  have hxl : xs.length = n := hrt.1
  have hcl : cs'.size = n * e.size := by have := hrt.length; simpa [Ty.size] using this
  refine row_good (C := C) (o := o) (e := e) (el := et) (xs := xs) (cs := cs') (ks := partKeys (evalS st.sl) ps.toList) (cap := n) (fz := (0, 0)) (s := .junk)
   (w' := w.alloc (.cells cs' et)) hR hi hd rfl rfl rfl rfl (.inl rfl) ?_ (by unfold MAXL; rw [hxl]; have : n * 1 ≤ n * e.size := Nat.mul_le_mul_left _ hpos; omega) (by omega) (by rw [hcl]; exact Nat.le_refl _) (by unfold CAPM; have : n * 1 ≤ n * e.size := Nat.mul_le_mul_left _ hpos; omega) ?_
  ·unfold execOp; rw [ho]
   simp only [Instr.buildSlice, Sem.run_bind, run_underlying hu, Result.andThen_ok, sizeOf, typeInfo, run_program, hinf, Sem.run_pure, hsz]
   have hno : ¬ n * e.size > 2 ^ 24 := by omega
   rw [if_neg hno]
   by_cases h0 : n * e.size = 0
   ·rw [if_pos h0]
    have hn0 : n = 0 := by rcases Nat.mul_eq_zero.1 h0 with h | h <;> omega
    have hm : (Array.range (n * e.size)).map ((#[] : Array Value)[· % (#[] : Array Value).size]!) = madeCells z.cells (n * e.size) := by simp [madeCells, h0, Array.range_zero']
    simp only [Sem.run_pure, Result.andThen_ok, hm, parts_list, hfill, newRow, Sem.run_bind, run_newObj, hxl]
    rfl
   ·rw [if_neg h0]
    have hm : (Array.range (n * e.size)).map (z.cells[· % z.cells.size]!) = madeCells z.cells (n * e.size) := rfl
    simp only [zeroValue, typeInfo, Sem.run_bind, run_program, hinf, hz, Sem.run_pure, Result.andThen_ok, hm, parts_list, hfill, newRow, run_newObj, hxl]
    rfl
  ·intro ok w' hk hc hks
   obtain ⟨cs'', h1, h2⟩ := addParts_rt (w := w) (w' := w') (ok := ok) (P := C.P) hR.bufs hR.eval hk hc (n := n) ps.toList _ (madeCells z.cells (n * e.size)) hks hp (hmade w' _)
   rw [hfill] at h1; cases h1
   exact ⟨cs'.toList, [], by simp, by rw [hxl]; exact h2⟩
theorem opS_build_arr {t : TypeId} {ps : Array (Nat × Operand)} {n : Nat} {e : Ty} {zs : List e.den} (hR : RelSt E w0 own0 st D a.tmps w) (hi : i ∉ D) (ho : o.op = .build t ps)
  (hzc : zeroC C.P t = some (.arr n e zs))
  (h : opS C o st.ep i (evalS st.sl) st.tb = some r) : OpGood C.P E w0 own0 st D i o r.v r.ef a w := by
 have hd := opS_lt h
 unfold opS at h
 rw [ho] at h
 simp only [hd, decide_true, Bool.not_true, Bool.false_eq_true, if_false, hzc] at h
 split at h <;> try contradiction
 ·rename_i heq _; cases heq
 rename_i n' e' zs' len et heq hu
 cases heq
 split at h <;> try contradiction
 rename_i hsz
 cases hp : addParts C st.tb e (evalS st.sl) ps.toList zs with
 | none => simp [hp] at h
 | some xs =>
  simp only [hp, Option.bind_some, Option.some.injEq] at h; subst h
  obtain ⟨z, hzrun, _, _, _, _, _⟩ := zeroC_rel (E := E) (tb := st.tb) (w := w) hzc
  have hzr : ∀ (w' : World) (ok : Ty → Nat → Prop), Rt w' ok (.arr n e) z.cells.toList zs := by
   intro w' ok
   unfold zeroC at hzc
   split at hzc <;> try contradiction
   rename_i s' inf h1 h2
   split at hzc <;> try contradiction
   rename_i z' hz'
   split at hzc <;> try contradiction
   rename_i hs
   cases hzc
   have hzz := zeroOf_zero C.P _ _ h1
   simp only [ZeroS] at hzz
   subst hzz
   have : z' = z := by
    unfold zeroValue typeInfo at hzrun
    simp only [Sem.run_bind, run_program, Result.andThen_ok, h2, Sem.run_pure, hz'] at hzrun
    cases hzrun; rfl
   subst this
   exact isZ_rt (t := .arr n e) (by simpa [isZS] using hs)
  obtain ⟨cs', hfill, hrt⟩ := addParts_rt (w := w) (w' := w) (ok := fun _ _ => True) (P := C.P) hR.bufs hR.eval (fun _ b _ hb => ⟨trivial, hb⟩) (fun _ _ _ _ _ h => h) (n := n) ps.toList _ z.cells
   (fun k _ e p h1 h2 => ⟨fun _ => trivial, (hR.ent k e h1).lt h2, fun _ _ h => h⟩) hp (hzr w _)
  have hold : ∀ k e', st.tb.sets (freezes st.tb (partKeys (evalS st.sl) ps.toList)) k = some e' → ∃ e, st.tb k = some e ∧ (e' = e ∨ e' = e.freeze) := by
   intro k e' he
   rcases freezes_get st.tb (partKeys (evalS st.sl) ps.toList) k with h | ⟨e1, h1, _, h2⟩
   ·rw [h] at he; exact ⟨e', he, .inl rfl⟩
   ·rw [h2] at he; cases he; exact ⟨e1, h1, .inr rfl⟩
  refine turn_good (C := C) (E' := E.upd (st.ep * 4096 + i) fun _ => none) (w' := w) (u := .agg cs') (T := fun _ => False) hR hi hd
   (turn_gen hR hi hd (Nat.le_refl _) rfl rfl rfl (fun _ h => h.elim) (fun b hb _ => rfl) (fun _ _ h => h.elim) ?_ ?_ (by simp)) (.inl ?_) ?_
  ·intro k e' he hk
   obtain ⟨e1, h1, h2⟩ := hold k e' he
   exact ⟨e1, h1, .inl ⟨fun _ _ h => h, h2⟩⟩
  ·intro k e' he hk
   obtain ⟨e1, h1, h2⟩ := hold k e' he
   rw [fresh_none hR hi hd hk] at h1; cases h1
  ·unfold execOp; rw [ho]
   simp only [Instr.build, Sem.run_bind, hzrun, Result.andThen_ok, run_underlying hu, run_sizeT hsz, parts_list, hfill, Sem.run_pure]
  ·intro M
   obtain ⟨cs'', h1, h2⟩ := addParts_rt (w := w) (w' := w) (ok := (E.upd (st.ep * 4096 + i) fun _ => none).ok (st.tb.sets (freezes st.tb (partKeys (evalS st.sl) ps.toList)))) (P := C.P) hR.bufs hR.eval M.ok M.cell (n := n) ps.toList _ z.cells
    (fun k hk' e1 p he1 hp1 => by
     have hlt := (hR.ent k e1 he1).lt hp1
     have hkt := (hR.keyT k e1 he1).notFresh hi hd
     refine ⟨frozen_ok (E' := E.upd (st.ep * 4096 + i) fun _ => none) hR (e' := e1.freeze) (t := st.ep * 4096 + i) rfl (fun k hk => upd_old hk) ?_ ?_ hkt he1 hp1 (freezes_hit he1 hk') (freeze_fz e1), hlt, fun o v hv => hv⟩
     ·intro j e' he' hj
      obtain ⟨e1, h1, _⟩ := hold j e' he'
      exact ⟨e1, h1⟩
     ·intro j e' q he' hj hq
      rw [upd_new hj] at hq; cases hq) hp (hzr w _)
   rw [hfill] at h1; cases h1
   refine ⟨?_, by simp [keysOf]⟩
   simp only [RelV, S.isAgg, if_true]
   exact ⟨cs', rfl, h2⟩
theorem RelL.set {tb : Tbl} : ∀ {fs : List S} {cs cs' ds : List Value} {j m : Nat} {old s : S}, RelL E tb w fs cs → fs[j]? = some old → Rel E tb w s ds → s.size = old.size → cs'.length = cs.length → m = offL fs j →
  (∀ p, cs'[p]? = if m ≤ p ∧ p < m + s.size then ds[p - m]? else cs[p]?) → RelL E tb w (fs.set j s) cs'
 | [], cs, cs', ds, j, m, old, s, _, hj, _, _, _, _, _ => by simp at hj
 | f :: r, cs, cs', ds, 0, m, old, s, h, hj, hs, hsz, hl, hm, hp => by
  simp at hj; subst hj
  obtain ⟨c1, c2, rfl, h1, h2⟩ := h
  have hdl := Rel.length hs
  have h1l := Rel.length h1
  simp only [offL] at hm
  subst hm
  refine ⟨ds, c2, ?_, hs, h2⟩
  apply List.ext_getElem?
  intro p
  rw [hp]
  by_cases hlt : p < s.size
  ·rw [if_pos ⟨by omega, by omega⟩, List.getElem?_append_left (by omega), Nat.sub_zero]
  ·rw [if_neg (by omega), List.getElem?_append_right (by omega), List.getElem?_append_right (by omega)]; congr 1; omega
 | f :: r, cs, cs', ds, j + 1, m, old, s, h, hj, hs, hsz, hl, hm, hp => by
  obtain ⟨c1, c2, rfl, h1, h2⟩ := h
  have h1l := Rel.length h1
  have hdl := Rel.length hs
  simp only [offL] at hm
  refine ⟨c1, cs'.drop c1.length, ?_, h1, RelL.set (m := offL r j) h2 (by simpa using hj) hs hsz (by simp [hl]) rfl ?_⟩
  ·apply List.ext_getElem?
   intro p
   by_cases hlt : p < c1.length
   ·rw [List.getElem?_append_left hlt, hp, if_neg (by omega), List.getElem?_append_left hlt]
   ·rw [List.getElem?_append_right (by omega), List.getElem?_drop]; congr 1; omega
  ·intro p
   rw [List.getElem?_drop, hp]
   by_cases hq : offL r j ≤ p ∧ p < offL r j + s.size
   ·rw [if_pos hq, if_pos (by omega)]; congr 1; omega
   ·rw [if_neg hq, if_neg (by omega), List.getElem?_append_right (by omega)]; congr 1; omega
mutual
theorem sameShape_plain : ∀ {s t : S}, sameShape s t = true → plain t = true
 | .st fs, t, h => by
  cases t <;> simp [sameShape] at h
  simp only [plain]; exact sameShapeL_plain h
 | .arr .., t, h => by cases t <;> simp [sameShape] at h; rfl
 | .junk, t, h => by simp [sameShape] at h
 | .tup _, t, h => by simp [sameShape] at h
 | .int .., t, h | .bool _, t, h | .str _, t, h | .sl .., t, h | .nilsl, t, h | .own .., t, h | .twn .., t, h | .ptr .., t, h | .nilp, t, h | .iref .., t, h | .gptr .., t, h | .fn .., t, h | .nilfn, t, h | .iface .., t, h | .nili, t, h | .mp _, t, h | .nilmp, t, h | .err _, t, h => by
  cases t <;> first | rfl | simp [sameShape] at h
theorem sameShapeL_plain : ∀ {l m : List S}, sameShapeL l m = true → plainL m = true
 | [], [], _ => rfl
 | f :: r, g :: q, h => by
  simp only [sameShapeL, Bool.and_eq_true] at h
  simp only [plainL, sameShape_plain h.1, sameShapeL_plain h.2, Bool.and_self]
 | [], _ :: _, h => by simp [sameShapeL] at h
 | _ :: _, [], h => by simp [sameShapeL] at h
end
theorem offL_le : ∀ (fs : List S) (j : Nat), offL fs j ≤ sizeL fs
 | [], j => by simp [offL]
 | f :: r, 0 => by simp [offL]
 | f :: r, j + 1 => by have := offL_le r j; simp only [offL, sizeL]; omega
theorem keysL_set : ∀ {fs : List S} {j : Nat} {s : S} {k : Nat}, k ∈ keysOfL (fs.set j s) → k ∈ keysOf s ∨ k ∈ keysOfL fs
 | [], j, s, k, h => by simp [keysOfL] at h
 | f :: r, 0, s, k, h => by
  simp only [List.set_cons_zero, keysOfL, List.mem_append] at h ⊢
  rcases h with h | h
  ·exact .inl h
  ·exact .inr (.inr h)
 | f :: r, j + 1, s, k, h => by
  simp only [List.set_cons_succ, keysOfL, List.mem_append] at h ⊢
  rcases h with h | h
  ·exact .inr (.inl h)
  ·rcases keysL_set h with h | h
   ·exact .inl h
   ·exact .inr (.inr h)
theorem offL_set {fs : List S} : ∀ {j : Nat} {old s : S}, fs[j]? = some old → s.size = old.size → ∀ m, offL (fs.set j s) m = offL fs m := by
 induction fs with
 | nil => intro j old s h; simp at h
 | cons f r ih =>
  intro j old s hj hs m
  cases j with
  | zero => simp at hj; subst hj; cases m <;> simp [offL, hs]
  | succ j => cases m with
   | zero => simp [offL]
   | succ m => simp only [List.set_cons_succ, offL, ih (by simpa using hj) hs m]
theorem addFields_rel {P : Program} {fs : Array Field} {zs : List S} {ep : Nat} {tb : Tbl} {sl : List S} (hev : ∀ x, RelV E tb w (evalS sl x) (a.eval x)) (hek : ∀ x, ∀ k ∈ keysOf (evalS sl x), Known ep D k) :
  ∀ (ps : List (Nat × Operand)) (xs : List S) {ys : List S} (cs : Array Value), (∀ m, offL xs m = offL zs m) →
   addFields fs P (evalS sl) zs ps xs = some ys → RelL E tb w xs cs.toList → (∀ k ∈ keysOfL xs, Known ep D k) →
   ∃ cs', Instr.fill (fun j => (fs[j]?).map fun f => (f.offset, P.cellsOf f.type)) cs (ps.map fun q => (q.1, a.eval q.2)) = some cs' ∧ RelL E tb w ys cs'.toList ∧ (∀ k ∈ keysOfL ys, Known ep D k)
 | [], xs, ys, cs, hoff, h, hr, hk => by simp [addFields] at h; subst h; exact ⟨cs, rfl, hr, hk⟩
 | (j, x) :: r, xs, ys, cs, hoff, h, hr, hk => by
  simp only [addFields] at h
  split at h <;> try contradiction
  rename_i f old hf hold
  split at h <;> try contradiction
  rename_i hc
  simp only [Bool.and_eq_true, decide_eq_true_eq, beq_iff_eq] at hc
  obtain ⟨⟨hfo, hcells⟩, hshape⟩ := hc
  obtain ⟨hsz, hag⟩ := sameShape_size hshape
  have hp : plain (evalS sl x) = true := by
   revert hshape
   generalize evalS sl x = s
   intro hshape
   exact sameShape_plain hshape
  have hv : Rel E tb w (evalS sl x) (a.eval x).cells.toList := cells_rel (hev x) hp
  have hvl := Rel.length hv
  have hxs : (a.eval x).cells.size = (evalS sl x).size := by simpa using hvl
  obtain ⟨ds, q1, q2⟩ := RelL.get hr hold
  have hql := Rel.length q2
  have hbound : offL xs j + (evalS sl x).size ≤ cs.size := by
   rcases Nat.eq_zero_or_pos ds.length with h0 | h0
   ·have hlen := RelL.length hr
    have := offL_le xs j
    simp at hlen; omega
   ·have h1 := q1 (ds.length - 1) (ds[ds.length - 1]'(by omega)) (List.getElem?_eq_getElem _)
    by_cases hh : offL xs j + (ds.length - 1) < cs.toList.length
    ·simp at hh; omega
    ·rw [List.getElem?_eq_none (by omega)] at h1; cases h1
  obtain ⟨f1, f2⟩ := fill_step (offL xs j) (a.eval x) cs (by omega)
  have hnew := RelL.set (cs' := ((a.eval x).cells.zipIdx.foldl (fun cs (c, m) => cs.setIfInBounds (offL xs j + m) c) cs).toList) hr hold hv hsz.symm (by simpa using f1) rfl
   (fun p => by rw [Array.getElem?_toList, f2, hxs]; simp)
  obtain ⟨cs', r1, r2, r3⟩ := addFields_rel (fs := fs) hev hek r _ _ (fun m => by rw [offL_set hold hsz.symm, hoff]) h hnew (by
   intro k hk'
   rcases keysL_set hk' with h1 | h1
   ·exact hek x k h1
   ·exact hk k h1)
  refine ⟨cs', ?_, r2, r3⟩
  simp only [List.map_cons, Instr.fill, hf, Option.map_some, cellsOf_T hcells, hfo, ← hoff j, hxs]
  rw [if_neg (by simp; omega)]
  exact r1
end
end Go.Ab
