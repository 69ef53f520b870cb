/- Stores, as operations. -/
import Derived.Test.YtlhinijgdffcdaaGreatDoorOp11
namespace Go.Ab
open Go
set_option linter.unusedVariables false
set_option linter.unusedSimpArgs false
mutual
theorem lower_size {tb : Tbl} : ∀ {s : S} {t : Ty} {x : t.den}, lower tb s t = some x → s.size = t.size
 | .int k n, t, x, hl => by
  cases t <;> simp [lower] at hl
  rfl
 | .bool b, t, x, hl => by
  cases t <;> simp [lower] at hl
  rfl
 | .str s, t, x, hl => by
  cases t <;> simp [lower] at hl
  rfl
 | .sl e xs, t, x, hl => by
  cases t <;> simp [lower] at hl
  rfl
 | .nilsl, t, x, hl => by
  cases t <;> simp [lower] at hl
  rfl
 | .own u k, t, x, hl => by
  cases t <;> simp [lower] at hl
  rfl
 | .twn u k n, t, x, hl => by
  cases t <;> simp [lower] at hl
  rfl
 | .arr n e xs, t, x, hl => by
  cases t <;> simp [lower] at hl
  obtain ⟨rfl, rfl, _⟩ := hl; rfl
 | .st fs, t, x, hl => by
  cases t with
  | rose a =>
   simp only [lower] at hl
   split at hl <;> try contradiction
   rename_i y hy
   simp only [S.size, Ty.size]; exact lowerR_size hy
  | _ =>
   simp only [lower] at hl
   simp only [S.size]; exact lowerL_size hl
 | .err y, t, x, hl => by
  cases t <;> simp [lower] at hl
  rfl
 | .junk, t, x, hl | .ptr .., t, x, hl | .nilp, t, x, hl | .iref .., t, x, hl | .gptr .., t, x, hl
 | .fn .., t, x, hl | .nilfn, t, x, hl | .iface .., t, x, hl | .nili, t, x, hl | .mp _, t, x, hl | .nilmp, t, x, hl | .tup _, t, x, hl => by
  simp [lower] at hl
theorem lowerR_size {tb : Tbl} : ∀ {l : List S} {t r : Ty} {x : t.den × List r.den}, lowerR tb l t r = some x → sizeL l = t.size + 1
 | [], t, r, x, hl => by simp [lowerR] at hl
 | [f], .unit, r, x, hl => by
  simp only [lowerR] at hl
  split at hl <;> try contradiction
  rename_i ks h1
  simp only [sizeL, Ty.size, lower_size h1]
 | f :: q, .pair a b, r, x, hl => by
  simp only [lowerR] at hl
  split at hl <;> try contradiction
  rename_i y z h1 h2
  simp only [sizeL, Ty.size, lower_size h1, lowerR_size h2]; omega
 | f :: g :: q, .unit, r, x, hl => by simp [lowerR] at hl
 | f :: q, .int _, r, x, hl | f :: q, .nw _, r, x, hl | f :: q, .bool, r, x, hl | f :: q, .str, r, x, hl | f :: q, .slice _, r, x, hl | f :: q, .arr _ _, r, x, hl | f :: q, .rose _, r, x, hl | f :: q, .err, r, x, hl => by simp [lowerR] at hl
theorem lowerL_size {tb : Tbl} : ∀ {l : List S} {t : Ty} {x : t.den}, lowerL tb l t = some x → sizeL l = t.size
 | [], t, x, hl => by
  cases t <;> simp [lowerL] at hl
  rfl
 | f :: r, t, x, hl => by
  cases t <;> simp [lowerL] at hl
  rename_i a b
  split at hl <;> try contradiction
  rename_i y z h1 h2
  simp only [sizeL, Ty.size, lower_size h1, lowerL_size h2]
end
theorem spl_mk {cs ds : List Value} {m : Nat} (h : m + ds.length ≤ cs.length) : Spl cs (cs.take m ++ ds ++ cs.drop (m + ds.length)) ds m := by
 refine ⟨by simp; omega, h, fun p => ?_⟩
 have hm : (cs.take m).length = m := by simp; omega
 by_cases h1 : p < m
 ·rw [if_neg (by omega), List.append_assoc, List.getElem?_append_left (by omega), List.getElem?_take, if_pos h1]
 ·rw [List.append_assoc, List.getElem?_append_right (by omega), hm]
  by_cases h2 : p < m + ds.length
  ·rw [if_pos ⟨by omega, h2⟩, List.getElem?_append_left (by omega)]
  ·rw [if_neg (by omega), List.getElem?_append_right (by omega), List.getElem?_drop]; congr 1; omega
theorem Spl.lies {w w' : World} {b o m : Nat} {cs cs' ds : List Value} {cur cur' : Array Value} {el : TypeId} {fz : Nat × Nat} (hw : w.heap[b]? = some (.cells cur el fz)) (hw' : w'.heap[b]? = some (.cells cur' el fz))
  (hs : Spl cs cs' ds m) (hc : Spl cur.toList cur'.toList ds (o + m)) (hl : Lies w b o cs) : Lies w' b o cs' := by
 intro i v hi
 rw [hs.2.2] at hi
 unfold World.cell?
 simp only [hw', Option.isSome_none, Bool.false_eq_true, if_false]
 rw [← Array.getElem?_toList, hc.2.2]
 by_cases h : m ≤ i ∧ i < m + ds.length
 ·rw [if_pos h] at hi
  rw [if_pos (by omega)]
  rw [show o + i - (o + m) = i - m by omega]; simpa using hi
 ·rw [if_neg h] at hi
  rw [if_neg (by omega)]
  have := hl i v hi
  unfold World.cell? at this
  simp only [hw, Option.isSome_none, Bool.false_eq_true, if_false] at this
  simpa using this
section
variable {E : Env} {w0 : World} {own0 : Nat → Bool → Prop} {st : St} {D : List Nat} {a : Act} {w : World} {C : Ctx} {o : Oper} {i : Nat} {r : OpR}
theorem target_good {k b : Nat} {off0 : Nat} {ent ent' : Ent} {L1 : List (Nat × Option Ent)} {w' : World} {s : S} {u : Value}
  (hR : RelSt E w0 own0 st D a.tmps w) (hi : i ∉ D) (hd : i < 4096) (he : st.tb k = some ent) (hfz : ent.fz = false) (hκ : E.κ k = some (b, off0))
  (hs : w'.heap.size = w.heap.size) (hos : w'.os = w.os) (htp : w'.tape = w.tape) (hou : w'.output = w.output)
  (hblk : ∀ b', b' ≠ b → w'.heap[b']? = w.heap[b']?)
  (hcell : ∀ o, ((w.cell? ⟨b, o, none⟩).isSome → (w'.cell? ⟨b, o, none⟩).isSome) ∧ ((w'.cell? ⟨b, o, none⟩).isSome → (w.cell? ⟨b, o, none⟩).isSome))
  (hL1 : ∀ q ∈ L1, (∃ j e, j < 64 ∧ q = (mk st.ep i j, some (.buf e [] false))) ∨ (q.1 ≠ k ∧ ∃ e, st.tb q.1 = some e ∧ q.2 = some e.freeze))
  (hsf : SameForm ent ent')
  (hrun : (execOp a.eval o).run C.P w = .ok (.value u) w' ∨ ((execOp a.eval o).run C.P w = .ok .skip w' ∧ u = undef))
  (hsc : s.isAgg = false ∧ keysOf s = [] ∧ ∀ E' tb', Rel E' tb' w' s [u])
  (hent : Moves (fun k => k / 64 = st.ep * 4096 + i) E st.tb w (E.upd (st.ep * 4096 + i) fun _ => none) (st.tb.sets (L1 ++ [(k, some ent')])) w' →
   RelE (E.upd (st.ep * 4096 + i) fun _ => none) (st.tb.sets (L1 ++ [(k, some ent')])) w' k ent' ∧ ∀ j ∈ ent'.keys, Known st.ep (i :: D) j) :
  OpGood C.P E w0 own0 st D i o s (L1 ++ [(k, some ent')]) a w := by
 have hkt : k / 64 ≠ st.ep * 4096 + i := (hR.keyT k ent he).notFresh hi hd
 have hlast : st.tb.sets (L1 ++ [(k, some ent')]) k = some ent' := by rw [sets_append]; exact set_eq _ _ _
 have hoth : ∀ j, j ≠ k → st.tb.sets (L1 ++ [(k, some ent')]) j = st.tb.sets L1 j := by
  intro j hj; rw [sets_append]; exact set_ne _ hj _
 refine turn_good (C := C) (E' := E.upd (st.ep * 4096 + i) fun _ => none) (w' := w') (u := u) (T := fun b' => b' = b) hR hi hd
  (turn_gen hR hi hd (by omega) hos htp hou ?_ (fun b' _ hb' => hblk b' hb') ?_ ?_ ?_ (by simp)) hrun ?_
 ·rintro b' rfl; exact ⟨k, _, ent, hκ, he, hfz, rfl⟩
 ·rintro b' o rfl; exact hcell o
 ·intro j e' he' hj
  by_cases hjk : j = k
  ·subst hjk
   rw [hlast] at he'; cases he'
   exact ⟨ent, he, .inr ⟨hsf, by simp [hfz], hent⟩⟩
  ·rw [hoth j hjk] at he'
   rcases sets_cases L1 st.tb j with h | ⟨_, h⟩
   ·rcases hL1 _ h with ⟨m, e, hm, hq⟩ | ⟨_, e, h1, h2⟩
    ·exfalso; apply hj; rw [(Prod.mk.inj hq).1]; exact mk_div _ _ _ hm
    ·simp only at h1 h2
     rw [he'] at h2; cases h2
     refine ⟨e, h1, .inl ⟨fun p hp hT => hjk (hR.inj j k p _ e ent hp hκ h1 he hT), .inr rfl⟩⟩
   ·rw [h] at he'
    refine ⟨e', he', .inl ⟨fun p hp hT => hjk (hR.inj j k p _ e' ent hp hκ he' he hT), .inl rfl⟩⟩
 ·intro j e' he' hj
  have hjk : j ≠ k := fun h => hkt (by rw [← h]; exact hj)
  rw [hoth j hjk] at he'
  rcases sets_cases L1 st.tb j with h | ⟨_, h⟩
  ·rcases hL1 _ h with ⟨m, e, hm, hq⟩ | ⟨_, e, h1, h2⟩
   ·have hq2 := (Prod.mk.inj hq).2
    rw [he'] at hq2
    cases hq2
    exact ⟨fun M => ⟨⟨by simp, by rw [upd_new hj]⟩, by simp [Ent.keys]⟩, by simp⟩
   ·rw [fresh_none hR hi hd hj] at h1; cases h1
  ·rw [h, fresh_none hR hi hd hj] at he'; cases he'
 ·intro M
  refine ⟨?_, by rw [hsc.2.1]; simp⟩
  rw [relV_scalar hsc.1]; exact hsc.2.2 _ _
theorem run_store_at {t : TypeId} {x y : Operand} {b off : Nat} {cur : Array Value} {el : TypeId} {fz : Nat × Nat} (ho : o.op = .store t x y) (hx : a.eval x = .pointer (some ⟨b, off, none⟩))
  (hsz : cellsT C.P t = some (a.eval y).cells.size) (hb : w.heap[b]? = some (.cells cur el fz)) (hf : fz.1 = fz.2 ∨ cur.size ≤ fz.1) (hl : off + (a.eval y).cells.size ≤ cur.size) (h1 : ∀ v ∈ (a.eval y).cells.toList, v.oneCell' = true) :
  ∃ cur' : Array Value, (execOp a.eval o).run C.P w = .ok .skip { w with heap := w.heap.setIfInBounds b (.cells cur' el fz) } ∧ Spl cur.toList cur'.toList (a.eval y).cells.toList off := by
 obtain ⟨cur', q1, q2⟩ := run_storeRow (P := C.P) (b := b) (el := el) (fz := fz) off (a.eval y).cells.toList 0 cur w hb hf (by simpa using hl) h1
 refine ⟨cur', ?_, by simpa using q2⟩
 unfold execOp; rw [ho]
 simp only [Instr.storeAt, hx, Instr.sureAddr, storeVar, Sem.run_bind, Sem.run_pure, Result.andThen_ok, run_sizeT hsz, ne_eq, not_true_eq_false, if_false, q1]
theorem lies_bound {b o : Nat} {cs : List Value} {cur : Array Value} {el : TypeId} {fz : Nat × Nat} (hw : w.heap[b]? = some (.cells cur el fz)) (hl : Lies w b o cs) (hp : 0 < cs.length) : o + cs.length ≤ cur.size := by
 have := hl (cs.length - 1) (cs[cs.length - 1]'(by omega)) (List.getElem?_eq_getElem _)
 unfold World.cell? at this
 simp only [hw] at this
 by_cases h : o + (cs.length - 1) < cur.size
 ·omega
 ·simp [Array.getElem?_eq_none (by omega : cur.size ≤ o + (cs.length - 1))] at this
theorem cell_some_set {b : Nat} {cur cur' : Array Value} {el : TypeId} {fz : Nat × Nat} (hw : w.heap[b]? = some (.cells cur el fz)) (hs : cur'.size = cur.size) (o : Nat) (h : (w.cell? ⟨b, o, none⟩).isSome) :
  (({ w with heap := w.heap.setIfInBounds b (.cells cur' el fz) } : World).cell? ⟨b, o, none⟩).isSome := by
 have hlt : b < w.heap.size := by
  by_cases h : b < w.heap.size
  ·exact h
  ·rw [Array.getElem?_eq_none (by omega)] at hw; cases hw
 unfold World.cell? at h ⊢
 simp only [hw] at h
 simp only [Array.getElem?_setIfInBounds_self_of_lt hlt]
 simp only [Option.isSome_none, Bool.false_eq_true, if_false] at h ⊢
 by_cases ho : o < cur.size
 ·rw [Array.getElem?_eq_getElem (by omega)]; rfl
 ·rw [Array.getElem?_eq_none (by omega)] at h; cases h
theorem cell_two_set {b : Nat} {cur cur' : Array Value} {el : TypeId} {fz : Nat × Nat} (hw : w.heap[b]? = some (.cells cur el fz)) (hs : cur'.size = cur.size) (o : Nat) :
  ((w.cell? ⟨b, o, none⟩).isSome → (({ w with heap := w.heap.setIfInBounds b (.cells cur' el fz) } : World).cell? ⟨b, o, none⟩).isSome) ∧
  ((({ w with heap := w.heap.setIfInBounds b (.cells cur' el fz) } : World).cell? ⟨b, o, none⟩).isSome → (w.cell? ⟨b, o, none⟩).isSome) := by
 refine ⟨cell_some_set hw hs o, fun h => ?_⟩
 have hlt : b < w.heap.size := by
  by_cases h : b < w.heap.size
  ·exact h
  ·rw [Array.getElem?_eq_none (by omega)] at hw; cases hw
 unfold World.cell? at h ⊢
 simp only [hw]
 simp only [Array.getElem?_setIfInBounds_self_of_lt hlt] at h
 simp only [Option.isSome_none, Bool.false_eq_true, if_false] at h ⊢
 by_cases ho : o < cur.size
 ·rw [Array.getElem?_eq_getElem ho]; rfl
 ·rw [Array.getElem?_eq_none (by omega)] at h; cases h
theorem storePu_good {t : TypeId} {x y : Operand} {k : Nat} {p : List Step} (hR : RelSt E w0 own0 st D a.tmps w) (hi : i ∉ D) (hd : i < 4096) (ho : o.op = .store t x y) (hs : evalS st.sl x = .ptr k p)
  (h : storePuS C st.tb t k p (evalS st.sl y) = some r) : OpGood C.P E w0 own0 st D i o r.v r.ef a w := by
 have hx := hR.eval x
 have hv := hR.eval y
 have hvk := hR.evalKeys y
 rw [hs, relV_scalar rfl] at hx
 simp only [Rel] at hx
 unfold storePuS at h
 split at h <;> try contradiction
 rename_i sb he
 rw [he] at hx
 obtain ⟨hp, b, off0, hκ, hxv⟩ := hx
 have hxv := (List.cons.inj hxv).1
 generalize hsv : evalS st.sl y = sv at h hv hvk
 have hkt : k / 64 ≠ st.ep * 4096 + i := (hR.keyT k _ he).notFresh hi hd
 have hscal : S.junk.isAgg = false ∧ keysOf S.junk = [] ∧ ∀ (w' : World) E' tb', Rel E' tb' w' .junk [undef] := ⟨rfl, rfl, fun _ _ _ => ⟨_, rfl⟩⟩
 split at h <;> try contradiction
 rename_i q hth hq
 unfold puS at hq
 split at hq <;> try contradiction
 rename_i ty hty
 rw [Option.map_eq_some_iff] at hq
 obtain ⟨y0, hy, rfl⟩ := hq
 cases hset : setS (fun s t => lower st.tb s t) p sb (lift ty y0) with
 | none => simp [hset] at h
 | some sb' =>
  simp only [hset, Option.bind_some] at h
  split at h <;> try contradiction
  rename_i hc
  simp only [Bool.and_eq_true, beq_iff_eq, decide_eq_true_eq, Bool.not_eq_true'] at hc
  obtain ⟨⟨⟨hc1, hc2⟩, hc3⟩, hc4⟩ := hc
  simp only [Option.some.injEq] at h; subst h
  have hfrz : ∀ {ent' : Ent} {w' : World}, w'.heap.size = w.heap.size → (∀ b', b' ≠ b → w'.heap[b']? = w.heap[b']?) → (ownKeys sv).contains k = false → ∀ j ∈ ownKeys sv, ∀ e p, st.tb j = some e → E.κ j = some p →
    (∀ ty, (E.upd (st.ep * 4096 + i) fun _ => none).ok (st.tb.sets (freezes st.tb (ownKeys sv) ++ [(k, some ent')])) ty p.1) ∧ p.1 < w'.heap.size ∧ ∀ o v, w.cell? ⟨p.1, o, none⟩ = some v → w'.cell? ⟨p.1, o, none⟩ = some v := by
   intro ent' w' hsz hblk hnk j hj e q hje hjq
   have hjk : j ≠ k := by rintro rfl; simp at hnk; exact hnk hj
   have hqb : q.1 ≠ b := fun hqb => hjk (hR.inj j k q _ e _ hjq hκ hje he hqb)
   have hgone : ∀ m, m ≠ k → st.tb.sets (freezes st.tb (ownKeys sv) ++ [(k, some ent')]) m = st.tb.sets (freezes st.tb (ownKeys sv)) m := by
    intro m hm; rw [sets_append]; exact set_ne _ hm _
   have hlt := (hR.ent j e hje).lt hjq
   refine ⟨frozen_ok (E' := E.upd (st.ep * 4096 + i) fun _ => none) hR (e' := e.freeze) (t := st.ep * 4096 + i) rfl (fun k hk => upd_old hk) ?_ ?_ ((hR.keyT j e hje).notFresh hi hd) hje hjq
    (by rw [hgone j hjk]; exact freezes_hit hje hj) (freeze_fz e), by omega, fun o v hv => by rw [cell_same (hblk _ hqb)]; exact hv⟩
   ·intro m e' hm hmt
    by_cases hmk : m = k
    ·exact ⟨_, by rw [hmk]; exact he⟩
    ·rw [hgone m hmk] at hm
     rcases freezes_get st.tb (ownKeys sv) m with h | ⟨e1, h1, _, _⟩
     ·rw [h] at hm; exact ⟨e', hm⟩
     ·exact ⟨e1, h1⟩
   ·intro m e' q' hm hmt hq'
    rw [upd_new hmt] at hq'; cases hq'
  obtain ⟨b', cs, hκ', hblt, hlies, hrel, hpl, hfree, hnav⟩ := hR.ent k _ he
  rw [hκ] at hκ'; cases hκ'
  obtain ⟨cur, el, lo, hi', hheap, hfr⟩ := hfree rfl
  have hbl : b < w.heap.size := hblt
  have hl2 : ∀ t' y, lower st.tb (lift ty y0) t' = some y → (lift ty y0).size = t'.size := fun t y h => lower_size h
  have hlsz : (lift ty y0).size = sv.size := by rw [lift_size, lower_size hy]
  have hvr := cells_rel hv hc3
  have hvl := Rel.length hvr
  have hvsz : (a.eval y).cells.size = sv.size := by simpa using hvl
  have hbd := setS_bound hl2 hp hset
  rw [hlsz] at hbd
  have hcl := Rel.length hrel
  have hcur : 0 + cs.length ≤ cur.size := lies_bound hheap hlies (by omega)
  simp only [offE, Nat.zero_add] at hxv
  obtain ⟨cur', hrun, hspl⟩ := run_store_at ho hxv (by rw [hvsz]; exact hc1) hheap hfr (by omega) (Rel.one hc3 hvr)
  have hspl2 := spl_mk (cs := cs) (ds := (a.eval y).cells.toList) (m := offS p sb) (by simp; omega)
  have hw' : ({ w with heap := w.heap.setIfInBounds b (.cells cur' el (lo, hi')) } : World).heap[b]? = some (.cells cur' el (lo, hi')) := by simp [hbl]
  have hsz' : cur'.size = cur.size := by simpa using hspl.1
  have hblk : ∀ b', b' ≠ b → ({ w with heap := w.heap.setIfInBounds b (.cells cur' el (lo, hi')) } : World).heap[b']? = w.heap[b']? := fun b' hb' => by simp [Array.getElem?_setIfInBounds_ne (Ne.symm hb')]
  refine target_good (C := C) (w' := { w with heap := w.heap.setIfInBounds b (.cells cur' el (lo, hi')) }) (ent := .box sb false) (u := undef) hR hi hd he rfl hκ (by simp) rfl rfl rfl hblk (cell_two_set hheap hsz') ?_ ?_ (.inr ⟨hrun, rfl⟩) ⟨hscal.1, hscal.2.1, hscal.2.2 _⟩ ?_
  ·intro q hq
   obtain ⟨h1, e, h2, h3⟩ := freezes_mem (tb := st.tb) (k := q.1) (x := q.2) hq
   exact .inr ⟨fun h => by rw [h] at h1; simp [h1] at hc4, e, h2, h3⟩
  ·right
   exact (setS_shape hpl hp hset).1
  ·intro M
   have q1 := Rt.lift (lower_rt hR.bufs M.ok M.cell (hfrz (by simp) hblk hc4) hvr hy)
   have hold := M.rel (fun j hj => (hR.keyE k _ he j hj).notFresh hi hd) hrel
   obtain ⟨r1, r2, r3⟩ := setS_rel q1 hl2 (by rw [hth]; simp) hp hpl hset hold hspl2
   refine ⟨⟨b, _, (upd_old hkt).trans hκ, by simpa using hbl, Spl.lies hheap hw' hspl2 (by simpa using hspl) hlies, r1, sameShape_plain r2, fun _ => ⟨cur', el, lo, hi', hw', by rw [hsz']; exact hfr⟩, hnav⟩, fun j hj => ?_⟩
   rcases r3 j hj with h | ⟨_, h⟩
   ·exact (hR.keyE k _ he j h).cons
   ·rw [lift_keys] at h; cases h
theorem opS_store {t : TypeId} {x y : Operand} (hR : RelSt E w0 own0 st D a.tmps w) (hi : i ∉ D) (ho : o.op = .store t x y)
  (h : opS C o st.ep i (evalS st.sl) st.tb = some r) : OpGood C.P E w0 own0 st D i o r.v r.ef a w := by
 have hd := opS_lt h
 have hx := hR.eval x
 have hv := hR.eval y
 have hvk := hR.evalKeys y
 unfold opS at h
 rw [ho] at h
 simp only [hd, decide_true, Bool.not_true, Bool.false_eq_true, if_false] at h
 split at h <;> try contradiction
 rename_i k p hs
 split at h
 ·exact storePu_good hR hi hd ho hs h
 rw [hs, relV_scalar rfl] at hx
 simp only [Rel] at hx
 cases he : st.tb k with
 | none => simp [he] at h
 | some ent =>
  rw [he] at hx
  simp only [he, Option.bind_some] at h
  obtain ⟨hp, b, off0, hκ, hxv⟩ := hx
  have hxv := (List.cons.inj hxv).1
  generalize hsv : evalS st.sl y = sv at h hv hvk
  have hkt : k / 64 ≠ st.ep * 4096 + i := (hR.keyT k ent he).notFresh hi hd
  have hscal : S.junk.isAgg = false ∧ keysOf S.junk = [] ∧ ∀ (w' : World) E' tb', Rel E' tb' w' .junk [undef] := ⟨rfl, rfl, fun _ _ _ => ⟨_, rfl⟩⟩
  have hl2 : ∀ t y, lower st.tb sv t = some y → sv.size = t.size := fun t y h => lower_size h
  have hfrz : ∀ {ent' : Ent} {w' : World}, w'.heap.size = w.heap.size → (∀ b', b' ≠ b → w'.heap[b']? = w.heap[b']?) → (ownKeys sv).contains k = false → ∀ j ∈ ownKeys sv, ∀ e p, st.tb j = some e → E.κ j = some p →
    (∀ ty, (E.upd (st.ep * 4096 + i) fun _ => none).ok (st.tb.sets (freezes st.tb (ownKeys sv) ++ [(k, some ent')])) ty p.1) ∧ p.1 < w'.heap.size ∧ ∀ o v, w.cell? ⟨p.1, o, none⟩ = some v → w'.cell? ⟨p.1, o, none⟩ = some v := by
   intro ent' w' hsz hblk hnk j hj e q hje hjq
   have hjk : j ≠ k := by rintro rfl; simp at hnk; exact hnk hj
   have hqb : q.1 ≠ b := fun hqb => hjk (hR.inj j k q _ e ent hjq hκ hje he hqb)
   have hgone : ∀ m, m ≠ k → st.tb.sets (freezes st.tb (ownKeys sv) ++ [(k, some ent')]) m = st.tb.sets (freezes st.tb (ownKeys sv)) m := by
    intro m hm; rw [sets_append]; exact set_ne _ hm _
   have hlt := (hR.ent j e hje).lt hjq
   refine ⟨frozen_ok (E' := E.upd (st.ep * 4096 + i) fun _ => none) hR (e' := e.freeze) (t := st.ep * 4096 + i) rfl (fun k hk => upd_old hk) ?_ ?_ ((hR.keyT j e hje).notFresh hi hd) hje hjq
    (by rw [hgone j hjk]; exact freezes_hit hje hj) (freeze_fz e), by omega, fun o v hv => by rw [cell_same (hblk _ hqb)]; exact hv⟩
   ·intro m e' hm hmt
    by_cases hmk : m = k
    ·exact ⟨ent, by rw [hmk]; exact he⟩
    ·rw [hgone m hmk] at hm
     rcases freezes_get st.tb (ownKeys sv) m with h | ⟨e1, h1, _, _⟩
     ·rw [h] at hm; exact ⟨e', hm⟩
     ·exact ⟨e1, h1⟩
   ·intro m e' q' hm hmt hq'
    rw [upd_new hmt] at hq'; cases hq'
  cases ent with
  | map => simp [setE] at h
  | box sb fz =>
   cases fz with
   | true => simp [setE] at h
   | false =>
    obtain ⟨b', cs, hκ', hblt, hlies, hrel, hpl, hfree, hnav⟩ := hR.ent k _ he
    rw [hκ] at hκ'; cases hκ'
    obtain ⟨cur, el, lo, hi', hheap, hfr⟩ := hfree rfl
    have hbl : b < w.heap.size := hblt
    simp only at h
    cases hth : thru p with
    | false =>
     simp only [hth, Bool.not_false] at h
     cases hset : setE (fun s t => lower st.tb s t) (.box sb false) p (nilOwn C.P st.ep i t sv 0).1 with
     | none => simp [hset] at h
     | some ent' =>
      simp only [hset, Option.bind_some] at h
      split at h <;> try contradiction
      rename_i hc
      simp only [Bool.and_eq_true, beq_iff_eq, decide_eq_true_eq, Bool.not_eq_true'] at hc
      obtain ⟨⟨⟨hc1, hc2⟩, hc3⟩, hc4⟩ := hc
      simp only [Option.some.injEq] at h; subst h
      simp only [setE, Option.map_eq_some_iff] at hset
      obtain ⟨sb', hset, rfl⟩ := hset
      obtain ⟨nf1, nf2, nf3⟩ := nilOwn_form C.P st.ep i sv t 0
      obtain ⟨nk1, nk2, nk3⟩ := nilOwn_keys C.P st.ep i sv t 0
      have hvr := cells_rel hv hc3
      have hvl := Rel.length hvr
      have hvsz : (a.eval y).cells.size = sv.size := by simpa using hvl
      have hl2' : ∀ t' y, lower st.tb (nilOwn C.P st.ep i t sv 0).1 t' = some y → (nilOwn C.P st.ep i t sv 0).1.size = t'.size := fun t y h => lower_size h
      have hbd := setS_bound hl2' hp hset
      rw [nf2] at hbd
      have hcl := Rel.length hrel
      have hcur : 0 + cs.length ≤ cur.size := lies_bound hheap hlies (by omega)
      simp only [offE, Nat.zero_add] at hxv
      obtain ⟨cur', hrun, hspl⟩ := run_store_at ho hxv (by rw [hvsz]; exact hc1) hheap hfr (by omega) (Rel.one hc3 hvr)
      have hspl2 := spl_mk (cs := cs) (ds := (a.eval y).cells.toList) (m := offS p sb) (by simp; omega)
      have hw' : ({ w with heap := w.heap.setIfInBounds b (.cells cur' el (lo, hi')) } : World).heap[b]? = some (.cells cur' el (lo, hi')) := by simp [hbl]
      have hsz' : cur'.size = cur.size := by simpa using hspl.1
      refine target_good (C := C) (w' := { w with heap := w.heap.setIfInBounds b (.cells cur' el (lo, hi')) }) (ent := .box sb false) (u := undef) hR hi hd he rfl hκ (by simp) rfl rfl rfl (fun b' hb' => by simp [Array.getElem?_setIfInBounds_ne (Ne.symm hb')]) (cell_two_set hheap hsz') ?_ ?_ (.inr ⟨hrun, rfl⟩) ⟨hscal.1, hscal.2.1, hscal.2.2 _⟩ ?_
      ·intro q hq
       obtain ⟨j, e, h1, h2, h3⟩ := nk3.1 q hq
       exact .inl ⟨j, e, by have := nk2 (by omega); omega, h1⟩
      ·right
       have : Rel E st.tb w sb cs := hrel
       exact (setS_shape hpl hp hset).1
      ·intro M
       have hkn : ∀ k' e, (k', some e) ∈ (nilOwn C.P st.ep i t sv 0).2.1 → st.tb.sets ((nilOwn C.P st.ep i t sv 0).2.1 ++ [(k, some (.box sb' false))]) k' = some e ∧ (E.upd (st.ep * 4096 + i) fun _ => none).κ k' = none := by
        intro k' e he'
        obtain ⟨j, e2, h1, h2, h3⟩ := nk3.1 _ he'
        have hk't : k' / 64 = st.ep * 4096 + i := by rw [(Prod.mk.inj h1).1]; exact mk_div _ _ _ (by have := nk2 (by omega); omega)
        have hk'k : k' ≠ k := fun h => hkt (by rw [← h]; exact hk't)
        refine ⟨?_, upd_new hk't⟩
        rw [sets_append, Tbl.sets, Tbl.sets, set_ne _ hk'k]
        exact nk3.2 _ _ _ (sets_mem _ st.tb ⟨_, he'⟩) he'
       obtain ⟨q1, q2⟩ := nilOwn_rel M C.P st.ep i sv t 0 hkn (fun k' hk' => (hvk k' hk').notFresh hi hd) hvr
       have hold := M.rel (fun j hj => (hR.keyE k _ he j hj).notFresh hi hd) hrel
       obtain ⟨r1, r2, r3⟩ := setS_rel q1 hl2' (by rw [hth]; simp) hp hpl hset hold hspl2
       refine ⟨⟨b, _, (upd_old hkt).trans hκ, by simpa using hbl, Spl.lies hheap hw' hspl2 (by simpa using hspl) hlies, r1, sameShape_plain r2, fun _ => ⟨cur', el, lo, hi', hw', by rw [hsz']; exact hfr⟩, hnav⟩, fun j hj => ?_⟩
       rcases r3 j hj with h | ⟨_, h⟩
       ·exact (hR.keyE k _ he j h).cons
       ·rcases q2 j h with h | ⟨m, hm, rfl⟩
        ·exact (hvk j h).cons
        ·exact mk_known (by omega)
    | true =>
     simp only [hth, Bool.not_true] at h
     cases hset : setE (fun s t => lower st.tb s t) (.box sb false) p sv with
     | none => simp [hset] at h
     | some ent' =>
      simp only [hset, Option.bind_some] at h
      split at h <;> try contradiction
      rename_i hc
      simp only [Bool.and_eq_true, beq_iff_eq, decide_eq_true_eq, Bool.not_eq_true'] at hc
      obtain ⟨⟨⟨hc1, hc2⟩, hc3⟩, hc4⟩ := hc
      simp only [Option.some.injEq] at h; subst h
      simp only [setE, Option.map_eq_some_iff] at hset
      obtain ⟨sb', hset, rfl⟩ := hset
      have hvr := cells_rel hv hc3
      have hvl := Rel.length hvr
      have hvsz : (a.eval y).cells.size = sv.size := by simpa using hvl
      have hbd := setS_bound hl2 hp hset
      have hcl := Rel.length hrel
      have hcur : 0 + cs.length ≤ cur.size := lies_bound hheap hlies (by omega)
      simp only [offE, Nat.zero_add] at hxv
      obtain ⟨cur', hrun, hspl⟩ := run_store_at ho hxv (by rw [hvsz]; exact hc1) hheap hfr (by omega) (Rel.one hc3 hvr)
      have hspl2 := spl_mk (cs := cs) (ds := (a.eval y).cells.toList) (m := offS p sb) (by simp; omega)
      have hw' : ({ w with heap := w.heap.setIfInBounds b (.cells cur' el (lo, hi')) } : World).heap[b]? = some (.cells cur' el (lo, hi')) := by simp [hbl]
      have hsz' : cur'.size = cur.size := by simpa using hspl.1
      have hblk : ∀ b', b' ≠ b → ({ w with heap := w.heap.setIfInBounds b (.cells cur' el (lo, hi')) } : World).heap[b']? = w.heap[b']? := fun b' hb' => by simp [Array.getElem?_setIfInBounds_ne (Ne.symm hb')]
      refine target_good (C := C) (w' := { w with heap := w.heap.setIfInBounds b (.cells cur' el (lo, hi')) }) (ent := .box sb false) (u := undef) hR hi hd he rfl hκ (by simp) rfl rfl rfl hblk (cell_two_set hheap hsz') ?_ ?_ (.inr ⟨hrun, rfl⟩) ⟨hscal.1, hscal.2.1, hscal.2.2 _⟩ ?_
      ·intro q hq
       obtain ⟨h1, e, h2, h3⟩ := freezes_mem (tb := st.tb) (k := q.1) (x := q.2) hq
       exact .inr ⟨fun h => by rw [h] at h1; simp [h1] at hc4, e, h2, h3⟩
      ·right
       exact (setS_shape hpl hp hset).1
      ·intro M
       have q1 := M.rel (fun k' hk' => (hvk k' hk').notFresh hi hd) hvr
       have hold := M.rel (fun j hj => (hR.keyE k _ he j hj).notFresh hi hd) hrel
       obtain ⟨r1, r2, r3⟩ := setS_rel q1 hl2 (fun _ t' y' hlo => lower_rt hR.bufs M.ok M.cell (hfrz (by simp) hblk hc4) hvr hlo) hp hpl hset hold hspl2
       refine ⟨⟨b, _, (upd_old hkt).trans hκ, by simpa using hbl, Spl.lies hheap hw' hspl2 (by simpa using hspl) hlies, r1, sameShape_plain r2, fun _ => ⟨cur', el, lo, hi', hw', by rw [hsz']; exact hfr⟩, hnav⟩, fun j hj => ?_⟩
       rcases r3 j hj with h | ⟨h, _⟩
       ·exact (hR.keyE k _ he j h).cons
       ·rw [hth] at h; cases h
  | buf e xs fz =>
   cases fz with
   | true => cases p <;> simp [setE] at h
   | false =>
    simp only at h
    cases hset : setE (fun s t => lower st.tb s t) (.buf e xs false) p sv with
    | none => simp [hset] at h
    | some ent' =>
     simp only [hset, Option.bind_some] at h
     split at h <;> try contradiction
     rename_i hc
     simp only [Bool.and_eq_true, beq_iff_eq, decide_eq_true_eq, Bool.not_eq_true'] at hc
     obtain ⟨⟨⟨hc1, hc2⟩, hc3⟩, hc4⟩ := hc
     simp only [Option.some.injEq] at h; subst h
     cases p with
     | nil => simp [pathE] at hp
     | cons sp p =>
      cases sp with
      | fld j => simp [pathE] at hp
      | idx n =>
       simp only [setE, Option.map_eq_some_iff] at hset
       obtain ⟨z, hset, rfl⟩ := hset
       obtain ⟨hxl, hent⟩ := hR.ent k _ he
       rw [hκ] at hent
       obtain ⟨hblt, hnav, hfree, hrow⟩ := hent
       obtain ⟨cur, el, lo, hi', hheap, hfr⟩ := hfree rfl
       obtain ⟨cs, hlies, hrt⟩ := Row.flat (ok := E.ok st.tb) hrow
       have hpT : pathT (.arr xs.length e) (.idx n :: p) := by simpa [pathT, pathE] using hp
       have hsT : setT (.arr xs.length e) xs (.idx n :: p) (fun s t => lower st.tb s t) sv = some (setA e xs n z) := by simp only [setT, hset, Option.map_some]
       have hvr := cells_rel hv hc3
       have hvl := Rel.length hvr
       have hvsz : (a.eval y).cells.size = sv.size := by simpa using hvl
       have hbd := setT_bound (n := sv.size) hl2 hpT hsT
       have hcl := hrt.length
       have hcur : off0 + cs.length ≤ cur.size := lies_bound hheap hlies (by omega)
       have hoff : offE (.buf e xs false) (.idx n :: p) = offT (.arr xs.length e) (.idx n :: p) := by simp [offE, offT]
       rw [hoff] at hxv
       obtain ⟨cur', hrun, hspl⟩ := run_store_at ho hxv (by rw [hvsz]; exact hc1) hheap hfr (by omega) (Rel.one hc3 hvr)
       have hspl2 := spl_mk (cs := cs) (ds := (a.eval y).cells.toList) (m := offT (.arr xs.length e) (.idx n :: p)) (by simp; omega)
       have hw' : ({ w with heap := w.heap.setIfInBounds b (.cells cur' el (lo, hi')) } : World).heap[b]? = some (.cells cur' el (lo, hi')) := by simp [hblt]
       have hsz' : cur'.size = cur.size := by simpa using hspl.1
       have hblk : ∀ b', b' ≠ b → ({ w with heap := w.heap.setIfInBounds b (.cells cur' el (lo, hi')) } : World).heap[b']? = w.heap[b']? := fun b' hb' => by simp [Array.getElem?_setIfInBounds_ne (Ne.symm hb')]
       refine target_good (C := C) (w' := { w with heap := w.heap.setIfInBounds b (.cells cur' el (lo, hi')) }) (ent := .buf e xs false) (u := undef) hR hi hd he rfl hκ (by simp) rfl rfl rfl hblk (cell_two_set hheap hsz') ?_ ⟨rfl, by simp [setA]⟩ (.inr ⟨hrun, rfl⟩) ⟨hscal.1, hscal.2.1, hscal.2.2 _⟩ ?_
       ·intro q hq
        obtain ⟨h1, e, h2, h3⟩ := freezes_mem (tb := st.tb) (k := q.1) (x := q.2) hq
        exact .inr ⟨fun h => by rw [h] at h1; simp [h1] at hc4, e, h2, h3⟩
       ·intro M
        have hrt2 := setT_rt (fun t' y' hlo => lower_rt hR.bufs M.ok M.cell (hfrz (by simp) hblk hc4) hvr hlo) hpT hsT (M.rt hrt) hspl2
        refine ⟨⟨by simpa [setA] using hxl, ?_⟩, by simp [Ent.keys]⟩
        rw [(upd_old hkt).trans hκ]
        exact ⟨by simpa using hblt, hnav, fun _ => ⟨cur', el, lo, hi', hw', by rw [hsz']; exact hfr⟩, hrt2.row (Spl.lies hheap hw' hspl2 hspl hlies)⟩
end
end Go.Ab
