/- Structs, bytes of a text, new maps. -/
import Derived.Test.YtlhinijgdffcdaaGreatDoorOp9
namespace Go.Ab
open Go
set_option linter.unusedVariables false
set_option linter.unusedSimpArgs false
theorem run_places {P : Program} {w : World} (fs : Array Field) (h : ∀ f ∈ fs, ∃ i, P.info? f.type = some i) :
  (fs.mapM fun f => (do pure (f.offset, ← sizeOf f.type) : Sem (Nat × Nat))).run P w = .ok (fs.map fun f => (f.offset, P.cellsOf f.type)) w := by
 obtain ⟨l⟩ := fs
 rw [List.mapM_toArray]
 simp only [Sem.run_map]
 have : ∀ l : List Field, (∀ f ∈ l, ∃ i, P.info? f.type = some i) → (l.mapM fun f => (do pure (f.offset, ← sizeOf f.type) : Sem (Nat × Nat))).run P w = .ok (l.map fun f => (f.offset, P.cellsOf f.type)) w := by
  intro l
  induction l with
  | nil => intro _; simp
  | cons f r ih =>
   intro h
   obtain ⟨i, hi⟩ := h f (by simp)
   rw [List.mapM_cons]
   simp only [Sem.run_bind, run_sizeOf w hi, Result.andThen_ok, Sem.run_pure, ih (fun g hg => h g (by simp [hg])), List.map_cons]
 rw [this l (fun f hf => h f (by simpa using hf))]
 simp
section
variable {E : Env} {w0 : World} {own0 : Nat → Bool → Prop} {st : St} {D : List Nat} {a : Act} {w : World} {C : Ctx} {o : Oper} {i : Nat} {r : OpR}
theorem nilOwn_good {s : S} {t : TypeId} {v : Value} (hR : RelSt E w0 own0 st D a.tmps w) (hi : i ∉ D) (hd : i < 4096)
  (hrun : (execOp a.eval o).run C.P w = .ok (.value v) w) (hv : RelV E st.tb w s v) (hk : ∀ k ∈ keysOf s, Known st.ep D k) :
  OpGood C.P E w0 own0 st D i o (nilOwn C.P st.ep i t s 0).1 (nilOwn C.P st.ep i t s 0).2.1 a w := by
 obtain ⟨n1, n2, n3⟩ := nilOwn_keys C.P st.ep i s t 0
 have hL : ∀ p ∈ (nilOwn C.P st.ep i t s 0).2.1, p.1 / 64 = st.ep * 4096 + i := by
  intro p hp
  obtain ⟨j, e, rfl, _, h3⟩ := n3.1 p hp
  exact mk_div _ _ _ (by have := n2 (by omega); omega)
 refine turn_good (C := C) (E' := E.upd (st.ep * 4096 + i) fun _ => none) (w' := w) (u := v) hR hi hd
  (turn_new hR hi hd (Nat.le_refl _) rfl rfl rfl (fun _ _ => rfl) hL (by simp) (by simp) ?_) (.inl hrun) ?_
 ·intro k e he ht M
  obtain ⟨j, e', h1, _, _⟩ := n3.1 _ he
  simp only [Prod.mk.injEq, Option.some.injEq] at h1
  obtain ⟨rfl, rfl⟩ := h1
  have hkk := hL _ he
  exact ⟨⟨by simp, by simp [Env.upd, hkk]⟩, by simp [Ent.keys]⟩
 ·intro M
  have hkn : ∀ k e, (k, some e) ∈ (nilOwn C.P st.ep i t s 0).2.1 → (st.tb.sets (nilOwn C.P st.ep i t s 0).2.1) k = some e ∧
    (E.upd (st.ep * 4096 + i) fun _ => none).κ k = none := by
   intro k e he
   have h2 := hL _ he
   have h3 := n3.2 _ _ _ (sets_mem _ st.tb ⟨_, he⟩) he
   exact ⟨h3, by simp only [Env.upd]; rw [if_pos h2]⟩
  obtain ⟨q1, q2⟩ := nilOwn_relV M C.P st.ep i s t 0 (v := v) hkn (fun k hk' => (hk k hk').notFresh hi hd) hv
  refine ⟨q1, fun k hk' => ?_⟩
  rcases q2 k hk' with h | ⟨j, hj, rfl⟩
  ·exact (hk k h).cons
  ·exact mk_known (by omega)
theorem opS_build_st {t : TypeId} {ps : Array (Nat × Operand)} {zs : List S} (hR : RelSt E w0 own0 st D a.tmps w) (hi : i ∉ D) (ho : o.op = .build t ps)
  (hzc : zeroC C.P t = some (.st zs))
  (h : opS C o st.ep i (evalS st.sl) st.tb = some r) : OpGood C.P E w0 own0 st D i o r.v r.ef a w := by
 have hd := opS_lt h
 unfold opS at h
 rw [ho] at h
 simp only [hd, decide_true, Bool.not_true, Bool.false_eq_true, if_false, hzc] at h
 split at h <;> try contradiction
 ·rename_i zs' fs heq hu
  simp only [Option.some.injEq, S.st.injEq] at heq
  subst heq
  split at h <;> try contradiction
  rename_i hall
  cases hp : addFields fs C.P (evalS st.sl) zs ps.toList zs with
  | none => simp [hp] at h
  | some xs =>
   simp only [hp, Option.bind_some, Option.some.injEq] at h; subst h
   obtain ⟨z, hzrun, _, hzr, hzk, _, _⟩ := zeroC_rel (E := E) (tb := st.tb) (w := w) hzc
   simp only [Rel] at hzr
   simp only [keysOf] at hzk
   obtain ⟨cs', hfill, hrel, hkk⟩ := addFields_rel (P := C.P) (D := D) (fs := fs) (zs := zs) (ep := st.ep) hR.eval hR.evalKeys ps.toList zs z.cells (fun _ => rfl) hp hzr (by rw [hzk]; simp)
   refine nilOwn_good (v := .agg cs') hR hi hd ?_ (by simp only [RelV, S.isAgg, if_true, Rel]; exact ⟨cs', rfl, hrel⟩) (by simpa [keysOf] using hkk)
   unfold execOp; rw [ho]
   have hinfo : ∀ f ∈ fs, ∃ i, C.P.info? f.type = some i := by
    intro f hf
    rw [Array.all_eq_true_iff_forall_mem] at hall
    exact Option.isSome_iff_exists.1 (hall f hf)
   have hpl : (fun j : Nat => (fs[j]?).map fun f => (f.offset, C.P.cellsOf f.type)) = ((fs.map fun f => (f.offset, C.P.cellsOf f.type))[·]?) := by
    funext j; simp
   rw [hpl] at hfill
   simp only [Instr.build, Sem.run_bind, hzrun, Result.andThen_ok, run_underlying hu, run_places fs hinfo, parts_list, hfill, Sem.run_pure]
 ·rename_i heq _; cases heq
theorem modify_push (h : Array Obj) (x : Obj) (f : Obj → Obj) : (h.push x).modify h.size f = h.push (f x) := by
 apply Array.ext_getElem?
 intro j
 rw [Array.getElem?_modify, Array.getElem?_push, Array.getElem?_push]
 by_cases hj : h.size = j
 ·subst hj; simp
 ·rw [if_neg hj, if_neg (fun h => hj h.symm), if_neg (fun h => hj h.symm)]
theorem opS_convert_bytes {src dst e : TypeId} {x : Operand} {s : List Int} (hR : RelSt E w0 own0 st D a.tmps w) (hi : i ∉ D) (ho : o.op = .convert src dst x)
  (hdst : C.P.underlying dst = some (.slice e)) (hs : evalS st.sl x = .str s)
  (h : opS C o st.ep i (evalS st.sl) st.tb = some r) : OpGood C.P E w0 own0 st D i o r.v r.ef a w := by
 have hd := opS_lt h
 have hx := hR.eval x
 rw [hs] at hx
 obtain ⟨bs, hv, rfl, hl⟩ := relV_str.1 hx
 unfold opS at h
 rw [ho] at h
 simp only [hd, decide_true, Bool.not_true, Bool.false_eq_true, if_false, hs] at h
 rw [if_neg (by simp [isOwnS])] at h
 unfold convS at h
 simp only [hdst] at h
 split at h <;> try contradiction
 all_goals try (rename_i heq _; simp at heq; done)
 all_goals try (rename_i heq; simp at heq; done)
 rename_i d e' s' hsrc heq1 heq2
 cases heq1; cases heq2
 split at h <;> try contradiction
 rename_i he
 simp only [Option.some.injEq] at h; subst h
 have hcut := grownCap_ge w bs.size 0 e
 rw [bytesL_length] at hl
 have hrow := row_good (C := C) (o := o) (e := .int .u8) (el := e) (xs := bytesL bs) (cs := (bs.data.map fun b => Value.int .u8 b.toNat) ++ Array.replicate (grownCap w bs.size 0 e - bs.size) (.int .u8 0)) (ks := []) (cap := grownCap w bs.size 0 e)
  (fz := (grownCap w bs.size 0 e, grownCap w bs.size 0 e + 1)) (s := .junk)
  (w' := { w.drew with heap := w.heap.push (.cells ((bs.data.map fun b => Value.int .u8 b.toNat) ++ Array.replicate (grownCap w bs.size 0 e - bs.size) (.int .u8 0)) e (grownCap w bs.size 0 e, grownCap w bs.size 0 e + 1)) })
  hR hi hd rfl rfl rfl rfl (.inr ?_) ?_ (by rw [bytesL_length]; exact hl) (by rw [bytesL_length]; exact hcut) ?_ (grownCap_le_maxLen w bs.size 0 e (by have : MAXL = 4611686018427387904 := rfl; unfold maxLen; omega)) ?_
 ·simpa [freezes] using hrow
 ·simp; have : bs.data.size = bs.size := rfl; omega
 ·unfold execOp; rw [ho]
  have hsz : ((bs.data.map fun b : UInt8 => Value.int .u8 b.toNat) ++ Array.replicate (grownCap w bs.size 0 e - bs.size) (Value.int .u8 0)).size = grownCap w bs.size 0 e := by
   simp; have : bs.data.size = bs.size := rfl; omega
  have hfr : ∀ (cs : Array Value), cs.size = grownCap w bs.size 0 e → ({ w.drew with heap := w.heap.push (.cells cs e) } : World).freeze ⟨w.heap.size, cs.size, none⟩ 1 =
    { w.drew with heap := w.heap.push (.cells cs e (grownCap w bs.size 0 e, grownCap w bs.size 0 e + 1)) } := by
   intro cs hcs
   unfold World.freeze
   simp only [Nat.one_ne_zero, if_false, modify_push, hcs]
   rfl
  have hshape : ∀ (cs : Array Value), ({ w.drew with heap := w.heap.push (.cells cs e) } : World).shape? w.heap.size = some (e, cs.size) := by
   intro cs; unfold World.shape?; simp
  have hc : (choose (.appendCap bs.size 0 e)).run C.P w = .ok (grownCap w bs.size 0 e) w.drew := by
   simp [Question.forced, grownCap]
  simp only [convert, Sem.run_bind, run_underlying hsrc, run_underlying hdst, run_underlying he, Result.andThen_ok, hv, Conv.stringToBytes, hc, newRow, run_newObj, World.size_drew, Sem.run_pure, markStringish, run_shape, hshape,
   run_freeze, World.drew]
  have := hfr _ hsz
  simp only [World.drew] at this
  have hs2 := hshape ((bs.data.map fun b : UInt8 => Value.int .u8 b.toNat) ++ Array.replicate (grownCap w bs.size 0 e - bs.size) (Value.int .u8 0))
  simp only [World.drew] at hs2
  simp only [hs2, run_freeze, Result.andThen_ok, this, bytesL_length]
 ·simp; have : bs.data.size = bs.size := rfl; simp [Ty.size]; omega
 ·intro ok w' _ _ _
  refine ⟨(bytesL bs).map (Value.int .u8), List.replicate (grownCap w bs.size 0 e - bs.size) (.int .u8 0), ?_, ?_⟩
  ·simp [bytesL, Function.comp_def]
  ·rw [rt_arr_iff]
   refine ⟨rfl, by simp [Ty.size], fun j hj => ?_⟩
   have hj2 : j < ((bytesL bs).map (Value.int .u8)).length := by simpa using hj
   simp only [Ty.size, Nat.mul_one]
   refine ⟨?_, ?_⟩
   ·rw [List.drop_eq_getElem_cons hj2]; simp
   ·have : (bytesL bs)[j] ∈ bytesL bs := List.getElem_mem _
    unfold bytesL at this
    simp only [List.mem_map] at this
    obtain ⟨c, _, hc⟩ := this
    unfold bytesL
    rw [← hc, inK_iff]
    have := c.toNat_lt
    simp [IntKind.min, IntKind.max, IntKind.signed, IntKind.bits]; omega
theorem makeMap_good {kt vt : Ty} (hR : RelSt E w0 own0 st D a.tmps w) (hi : i ∉ D) (hd : i < 4096)
  (hrun : (execOp a.eval o).run C.P w = .ok (.value (.map (some w.heap.size))) { w with heap := w.heap.push (.map #[] 0) }) :
  OpGood C.P E w0 own0 st D i o (.mp (mk st.ep i 0)) [(mk st.ep i 0, some (.map kt vt [] false))] a w := by
 have hm0 : mk st.ep i 0 / 64 = st.ep * 4096 + i := mk_div _ _ _ (by omega)
 have hlast : st.tb.sets [(mk st.ep i 0, some (Ent.map kt vt [] false))] (mk st.ep i 0) = some (.map kt vt [] false) := set_eq _ _ _
 refine turn_good (C := C) (E' := E.upd (st.ep * 4096 + i) fun j => if j = 0 then some (w.heap.size, 0) else none) (u := .map (some w.heap.size)) (w' := { w with heap := w.heap.push (.map #[] 0) }) hR hi hd
  (turn_new hR hi hd (by simp) rfl rfl rfl (fun b hb => push_lt hb) ?_ ?_ ?_ ?_) (.inl hrun) ?_
 ·intro p hp; simp at hp; subst hp; exact hm0
 ·intro j p h; split at h <;> simp at h; subst h; exact Nat.le_refl _
 ·intro j k p q h1 h2 _; split at h1 <;> split at h2 <;> first | omega | (simp at h1 h2)
 ·intro k e he ht M
  simp at he
  obtain ⟨rfl, rfl⟩ := he
  refine ⟨⟨w.heap.size, #[], 0, by rw [upd_new hm0, mk_mod _ _ _ (by omega), if_pos rfl], fun _ hav => by have := hR.avlt _ _ hav; omega, push_eq, rfl⟩, by simp [Ent.keys]⟩
 ·intro M
  refine ⟨?_, fun k hk' => by simp [keysOf] at hk'; subst hk'; exact mk_known (by omega)⟩
  rw [relV_scalar rfl]
  simp only [Rel, hlast]
  exact ⟨w.heap.size, by rw [upd_new hm0, mk_mod _ _ _ (by omega), if_pos rfl], rfl⟩
theorem opS_makeMap {t : TypeId} {rs : Option Operand} (hR : RelSt E w0 own0 st D a.tmps w) (hi : i ∉ D) (ho : o.op = .makeMap t rs)
  (h : opS C o st.ep i (evalS st.sl) st.tb = some r) : OpGood C.P E w0 own0 st D i o r.v r.ef a w := by
 have hd := opS_lt h
 unfold opS at h
 rw [ho] at h
 simp only [hd, decide_true, Bool.not_true, Bool.false_eq_true, if_false] at h
 split at h <;> try contradiction
 rename_i kT vT hu
 split at h <;> try contradiction
 rename_i kt vt hk hv
 cases rs with
 | none =>
  simp only [Bool.and_true] at h
  split at h <;> try contradiction
  simp only [Option.some.injEq] at h; subst h
  refine makeMap_good hR hi hd ?_
  unfold execOp; rw [ho]; simp [Instr.makeMap]
 | some x =>
  simp only at h
  split at h <;> try contradiction
  rename_i hc
  rw [Bool.and_eq_true] at hc
  simp only [Option.some.injEq] at h; subst h
  refine makeMap_good hR hi hd ?_
  unfold execOp; rw [ho]
  have hx := hR.eval x
  obtain ⟨n, hn⟩ := Option.isSome_iff_exists.1 hc.2
  cases hs : evalS st.sl x <;> rw [hs] at hx hn <;> simp [asI] at hn
  obtain ⟨hxv, _⟩ := relV_int.1 hx
  simp [Instr.makeMap, run_underlying hu, hxv, asInt, asIntOf]
end
end Go.Ab
