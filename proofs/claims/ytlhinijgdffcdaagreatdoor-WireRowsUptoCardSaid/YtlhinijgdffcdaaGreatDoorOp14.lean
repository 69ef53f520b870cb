/- append, copy. -/
import Derived.Test.YtlhinijgdffcdaaGreatDoorOp13
import Derived.Laws.AppendOwn
namespace Go.Ab
open Go
set_option linter.unusedVariables false
set_option linter.unusedSimpArgs false
theorem rt_arr_take {w : World} {ok : Ty → Nat → Prop} {e : Ty} {n m : Nat} {cs : List Value} {xs : List e.den} (h : Rt w ok (.arr n e) cs xs) (hm : m ≤ n) : Rt w ok (.arr m e) (cs.take (m * e.size)) (xs.take m) := by
 rw [rt_arr_iff] at h ⊢
 obtain ⟨h1, h2, h3⟩ := h
 have hle : m * e.size ≤ n * e.size := Nat.mul_le_mul_right _ hm
 refine ⟨by simp; omega, by simp; omega, fun j hj => ?_⟩
 have hj2 : j < m := by simp at hj; omega
 have := h3 j (by omega)
 rw [List.getElem_take]
 have hb : (j + 1) * e.size ≤ m * e.size := Nat.mul_le_mul_right _ hj2
 rw [Nat.succ_mul] at hb
 rwa [List.drop_take, List.take_take, Nat.min_eq_left (by omega)]
theorem rt_arr_drop {w : World} {ok : Ty → Nat → Prop} {e : Ty} {n m : Nat} {cs : List Value} {xs : List e.den} (h : Rt w ok (.arr n e) cs xs) : Rt w ok (.arr (n - m) e) (cs.drop (m * e.size)) (xs.drop m) := by
 rw [rt_arr_iff] at h ⊢
 obtain ⟨h1, h2, h3⟩ := h
 refine ⟨by simp; omega, by simp [h2, Nat.sub_mul], fun j hj => ?_⟩
 have hj2 : m + j < xs.length := by simp at hj; omega
 have := h3 (m + j) hj2
 rw [List.getElem_drop, List.drop_drop]
 rwa [← Nat.add_mul]
section
variable {E : Env} {w0 : World} {own0 : Nat → Bool → Prop} {st : St} {D : List Nat} {a : Act} {w : World} {C : Ctx} {o : Oper} {i : Nat} {r : OpR}
theorem yok {P : Program} {e : Ty} {x : S} {v : Value} {ys : List e.den} (hR : RelSt E w0 own0 st D a.tmps w) (hx : RelV E st.tb w x v) (h : listOf st.tb e x = some ys) :
  ∃ ds, Rt w (E.ok st.tb) (.arr ys.length e) ds ys ∧ ∀ w2 : World, w2.heap = w.heap → (Builtin.lenOf v).run P w2 = .ok ys.length w2 ∧
   ∀ n, n ≤ ys.length → (Builtin.firstCells e.size n v).run P w2 = .ok (ds.take (n * e.size)).toArray w2 := by
 rcases listOf_rel hR hx h with hl | ⟨rfl, bs, rfl, hb, _⟩
 ·obtain ⟨p, cap, cs, rfl, h2, h3⟩ := hl.cells
  have hlen := h2.length
  refine ⟨cs, h2, fun w2 hw => ⟨rfl, fun n hn => ?_⟩⟩
  have hle : n * e.size ≤ ys.length * e.size := Nat.mul_le_mul_right _ hn
  have htl : (cs.take (n * e.size)).length = n * e.size := by simp only [List.length_take, Ty.size] at hlen ⊢; omega
  cases p with
  | none =>
   have hx : ys = [] := h3.resolve_right (by rintro ⟨b, o, h, _⟩; cases h)
   subst hx
   have : cs = [] := List.length_eq_zero_iff.1 (by simpa [Ty.size] using hlen)
   subst this
   simp [Builtin.firstCells]
  | some p =>
   simp only [Builtin.firstCells]
   rcases h3 with hx | ⟨b, o, hp, _, hlies⟩
   ·subst hx
    have : cs = [] := List.length_eq_zero_iff.1 (by simpa [Ty.size] using hlen)
    subst this
    have : n = 0 := by simpa using hn
    subst this
    simp [loadCells, loadCellsFrom]
   ·cases hp
    have := run_loadCells_list (P := P) w2 ⟨b, o, none⟩ (cs.take (n * e.size)) (fun j v hj => by
     rw [addr_add]
     have hj2 : cs[j]? = some v := by
      rw [List.getElem?_take] at hj
      split at hj
      ·exact hj
      ·cases hj
     have := hlies j v hj2
     unfold World.cell? at this ⊢
     rwa [hw])
    rw [htl] at this
    exact this
 ·have hb : ys = bytesL bs := hb
  subst hb
  refine ⟨(bytesL bs).map (Value.int .u8), ?_, fun w2 hw => ⟨by rw [bytesL_length]; rfl, fun n hn => ?_⟩⟩
  ·rw [rt_arr_iff]
   refine ⟨rfl, by simp [Ty.size], fun j hj => ?_⟩
   have hj2 : j < ((bytesL bs).map (Value.int .u8)).length := by simpa using hj
   simp only [Ty.size, Nat.mul_one]
   refine ⟨?_, ?_⟩
   ·rw [List.drop_eq_getElem_cons hj2]; simp
   ·have : (bytesL bs)[j] ∈ bytesL bs := List.getElem_mem _
    unfold bytesL at this
    simp only [List.mem_map] at this
    obtain ⟨c, _, hc⟩ := this
    unfold bytesL
    rw [← hc, inK_iff]
    have := c.toNat_lt
    simp [IntKind.min, IntKind.max, IntKind.signed, IntKind.bits]; omega
  ·simp only [Builtin.firstCells, Sem.run_pure, Ty.size, Nat.mul_one]
   congr 1
   apply Array.ext'
   simp only [ByteArray.data_extract, Array.toList_map, Array.toList_extract, List.extract_eq_take_drop, List.drop_zero, Nat.sub_zero, bytesL, List.map_map, List.map_take]
   rfl
theorem appOk_spec {P : Program} {tys : Array TypeId} (h : appOk P tys = true) :
  tys[1]? = none ∨ ∃ t d, tys[1]? = some t ∧ P.underlying t = some d ∧ ((∃ e, d = .slice e) ∨ d = .string) := by
 unfold appOk at h
 cases ht : tys[1]? with
 | none => exact .inl rfl
 | some t =>
  simp only [ht] at h
  split at h <;> try contradiction
  ·rename_i e hu; exact .inr ⟨t, _, rfl, hu, .inl ⟨e, rfl⟩⟩
  ·rename_i hu; exact .inr ⟨t, _, rfl, hu, .inr rfl⟩
set_option maxHeartbeats 1000000 in
theorem run_append_in {P : Program} {tys : Array TypeId} {ty t et : TypeId} {e : Ty} {p : Option Addr} {n m cap : Nat} {v : Value} {ds : List Value} {w' : World} (ht : tys[0]? = some t) (hz : appOk P tys = true) (hu : P.underlying t = some (.slice et)) (hs : cellsT P et = some e.size)
  (hl : (Builtin.lenOf v).run P w = .ok m w) (hf : (Builtin.firstCells e.size m v).run P w = .ok ds.toArray w) (hn : n + m ≤ cap)
  (hst : (match p with | some a => storeCells (a.add (n * e.size)) ds | none => pure ()).run P w = .ok () w') :
  (Builtin.append_ tys ty #[.slice p n cap, v]).run P w = .ok (.slice p (n + m) cap) w' := by
 have key : (Builtin.append_ tys ty #[.slice p n cap, v]).run P w = ((match p with | some a => storeCells (a.add (n * e.size)) ds | none => pure ()).run P w).andThen fun _ w2 => .ok (.slice p (n + m) cap) w2 := by
  unfold Builtin.append_
  rcases appOk_spec hz with h1 | ⟨t1, d, h1, h2, ⟨e1, rfl⟩ | rfl⟩
  ·cases p <;> simp [ht, h1, run_underlying hu, run_sizeT hs, hl, hn, hf]
  ·cases p <;> simp [ht, h1, run_underlying hu, run_underlying h2, run_sizeT hs, hl, hn, hf]
  ·cases p <;> simp [ht, h1, run_underlying hu, run_underlying h2, run_sizeT hs, hl, hn, hf]
 rw [key, hst]
 rfl
set_option maxHeartbeats 1000000 in
theorem run_append_out {P : Program} {tys : Array TypeId} {ty t et : TypeId} {e : Ty} {inf : TypeInfo} {z : Value} {p : Option Addr} {n m cap : Nat} {v : Value} {ds cs : List Value} (ht : tys[0]? = some t) (hz : appOk P tys = true) (hu : P.underlying t = some (.slice et)) (hs : cellsT P et = some e.size)
  (hinf : P.info? et = some inf) (hzero : inf.zero = some z) (hb1 : 0 < inf.bytes) (hb2 : inf.bytes ≤ 4096)
  (hl : ∀ w2 : World, w2.heap = w.heap → (Builtin.lenOf v).run P w2 = .ok m w2) (hf : ∀ w2 : World, w2.heap = w.heap → (Builtin.firstCells e.size m v).run P w2 = .ok ds.toArray w2)
  (ho : ∀ w2 : World, w2.heap = w.heap → (Builtin.firstCells e.size n (.slice p n cap)).run P w2 = .ok cs.toArray w2) (hn : cap < n + m) (hsm : n + m < SMALL) :
  (Builtin.append_ tys ty #[.slice p n cap, v]).run P w = .ok (.slice (some ⟨w.heap.size, 0, none⟩) (n + m) (grownCap w (n + m) cap et))
   (w.drew.alloc (.cells (cs.toArray ++ ds.toArray ++ Builtin.zeroCells z.cells (grownCap w (n + m) cap et - (n + m))) et)) := by
 unfold SMALL at hsm
 have hfit := growslice_fits (need := n + m) (old := cap) (bytes := inf.bytes) hn (by
  have : (n + m) * inf.bytes ≤ 17179869184 * 4096 := Nat.mul_le_mul (by omega) hb2
  omega)
 have h48 : ¬ (281474976710656 < Builtin.nextslicecap (n + m) cap * inf.bytes) := by omega
 have h63 : ¬ (9223372036854775807 < ((n : Int) + (m : Int))) := by omega
 have hnot : ¬ (n + m ≤ cap) := by omega
 have hl0 := hl w rfl
 have ho1 := ho w.drew rfl
 have hf1 := hf w.drew rfl
 have hcat : ∀ z, cs.toArray ++ (ds.toArray ++ z) = cs.toArray ++ ds.toArray ++ z := fun z => by rw [Array.append_assoc]
 unfold Builtin.append_
 rcases appOk_spec hz with h1 | ⟨t1, d, h1, h2, ⟨e1, rfl⟩ | rfl⟩
 ·simp [ht, h1, run_underlying hu, run_sizeT hs, hl0, hnot, typeInfo, zeroValue, hinf, hzero, h63, h48, Question.forced, grownCap, newRow, ho1, hf1]
  congr 2; apply Array.ext'; simp
 ·simp [ht, h1, run_underlying hu, run_underlying h2, run_sizeT hs, hl0, hnot, typeInfo, zeroValue, hinf, hzero, h63, h48, Question.forced, grownCap, newRow, ho1, hf1]
  congr 2; apply Array.ext'; simp
 ·simp [ht, h1, run_underlying hu, run_underlying h2, run_sizeT hs, hl0, hnot, typeInfo, zeroValue, hinf, hzero, h63, h48, Question.forced, grownCap, newRow, ho1, hf1]
  congr 2; apply Array.ext'; simp
theorem opS_append_own {tys : Array TypeId} {x y : Operand} {u : Ty} {k : Nat} (hR : RelSt E w0 own0 st D a.tmps w) (hid : i ∉ D) (ho : o.op = .call { callee := .builtin .append, args := #[x, y], argTypes := tys })
  (hs : evalS st.sl x = .own u k)
  (h : opS C o st.ep i (evalS st.sl) st.tb = some r) (hg : ∀ g ∈ r.g, g = true) : OpGood C.P E w0 own0 st D i o r.v r.ef a w := by
 have hd := opS_lt h
 have hx := hR.eval x
 have hy := hR.eval y
 unfold opS at h
 rw [ho] at h
 simp only [hd, decide_true, Bool.not_true, Bool.false_eq_true, if_false, List.map_cons, List.map_nil, hs] at h
 unfold builtinS at h
 simp only at h
 split at h <;> try contradiction
 rename_i t ht
 split at h <;> try contradiction
 rename_i e he hap
 split at h <;> try contradiction
 rename_i ys hys
 split at h <;> try contradiction
 rename_i e' xs hk
 split at h <;> try contradiction
 rename_i hee
 subst hee
 simp only [castL, Option.some.injEq] at h; subst h
 simp only [List.mem_cons, List.not_mem_nil, or_false, decide_eq_true_eq, forall_eq] at hg
 have hlx : listOf st.tb e' (evalS st.sl x) = some xs := by rw [hs]; simp [listOf, hk, castL]
 obtain ⟨cs, hcs, hcsr⟩ := yok (P := C.P) hR hx hlx
 obtain ⟨ds, hds, hdsr⟩ := yok (P := C.P) hR hy hys
 rw [hs, relV_scalar rfl] at hx
 simp only [Rel, hk] at hx
 obtain ⟨p, cap, hv, hc1, hc2⟩ := hx
 have hv := (List.cons.inj hv).1
 obtain ⟨hxl, hent⟩ := hR.ent k _ hk
 obtain ⟨et, hu, hel⟩ := sliceC_spec he
 obtain ⟨inf, z, hinf, hz, hzz, hsz, hpos, hb1, hb2⟩ := elemC_spec hel
 have hcells : cellsT C.P et = some e'.size := by
  have : ∃ d, C.P.underlying et = some d := by
   unfold elemC at hel
   split at hel <;> try contradiction
   rename_i e1 i1 h1 h2
   have : tyOf C.P FUEL et ≠ none := by rw [h1]; simp
   unfold FUEL at this
   unfold tyOf at this
   cases hh : C.P.underlying et with
   | none => simp [hh] at this
   | some d => exact ⟨d, rfl⟩
  obtain ⟨d, hd'⟩ := this
  simp [cellsT, hd', hinf, hsz]
 have hcl := hcs.length
 have hdl := hds.length
 simp only [Ty.size] at hcl hdl
 have hft : ds.take (ys.length * e'.size) = ds := by rw [List.take_of_length_le (by omega)]
 have hct : cs.take (xs.length * e'.size) = cs := by rw [List.take_of_length_le (by omega)]
 have hbig : (xs ++ ys).length ≤ MAXL := by simp; unfold SMALL at hg; unfold MAXL; omega
 have hrun : ∀ u w', (Builtin.append_ tys o.type #[.slice p xs.length cap, a.eval y]).run C.P w = .ok u w' → (execOp a.eval o).run C.P w = .ok (.value u) w' := by
  intro u w' hh
  unfold execOp; rw [ho]
  simp [resolve, invoke, builtin, hv, hh]
 by_cases hroom : xs.length + ys.length ≤ cap
 ·-- there is room
  cases hκ : E.κ k with
  | none =>
   rw [hκ] at hc2 hent
   subst hc2
   have hy0 : ys.length = 0 := by omega
   have hx0 : xs.length = 0 := by omega
   have hds0 : ds = [] := List.length_eq_zero_iff.1 (by rw [hdl, hy0]; simp)
   have hap2 := run_append_in (P := C.P) (w := w) (ty := o.type) (p := p) (n := xs.length) (m := ys.length) (cap := 0) (ds := []) (w' := w) ht hap hu hcells (hdsr w rfl).1 (by have := (hdsr w rfl).2 ys.length (Nat.le_refl _); rw [hft, hds0] at this; exact this) hroom
    (by cases p <;> simp [storeCells])
   have hnil : xs ++ ys = [] := List.length_eq_zero_iff.1 (by simp [hx0, hy0])
   refine rehome_good (q := none) hR hid hd hk (Nat.le_refl _) rfl rfl rfl (fun _ _ _ => rfl) (fun _ _ _ => ⟨id, id⟩) (by simp) (hrun _ _ hap2) ?_ ⟨p, 0, by simp, by simp [hx0, hy0], rfl⟩
   intro M
   refine ⟨hbig, ?_⟩
   rw [upd_new (mk_div _ _ _ (by omega)), mk_mod _ _ _ (by omega), if_pos rfl]
   exact hnil
  | some pq =>
   obtain ⟨b, off⟩ := pq
   rw [hκ] at hc2 hent
   obtain ⟨rfl, hcc, hcm⟩ := hc2
   obtain ⟨hblt, hnav, hfree, hrow⟩ := hent
   obtain ⟨cur, el, lo, hi', hheap, hfr⟩ := hfree rfl
   obtain ⟨cs2, hlies, hrt⟩ := Row.flat (ok := E.ok st.tb) hrow
   have hcl2 := hrt.length
   simp only [Ty.size] at hcl2
   have hcurb : off + cap * e'.size ≤ cur.size ∨ cap * e'.size = 0 := by
    rcases Nat.eq_zero_or_pos (cap * e'.size) with h0 | h0
    ·exact .inr h0
    ·left
     have := hcc (cap * e'.size - 1) (by omega)
     unfold World.cell? at this
     simp only [hheap] at this
     by_cases hh : off + (cap * e'.size - 1) < cur.size
     ·omega
     ·simp [Array.getElem?_eq_none (by omega : cur.size ≤ off + (cap * e'.size - 1))] at this
   have hfit : xs.length * e'.size + ds.length ≤ cap * e'.size := by
    have : (xs.length + ys.length) * e'.size ≤ cap * e'.size := Nat.mul_le_mul_right _ hroom
    rw [Nat.add_mul] at this; omega
   have hone : ∀ v ∈ ds, v.oneCell' = true := Rt.one hds
   rcases hcurb with hcurb | hcurb
   ·obtain ⟨cur', q1, q2⟩ := run_storeRow (P := C.P) (b := b) (el := el) (fz := (lo, hi')) (off + xs.length * e'.size) ds 0 cur w hheap hfr (by omega) hone
    have hap2 := run_append_in (P := C.P) (w := w) (ty := o.type) (p := some ⟨b, off, none⟩) (n := xs.length) (m := ys.length) (cap := cap) (ds := ds) ht hap hu hcells (hdsr w rfl).1 (by have := (hdsr w rfl).2 ys.length (Nat.le_refl _); rw [hft] at this; exact this) hroom
     (by simp only [addr_add]; exact q1)
    have hsz' : cur'.size = cur.size := by simpa using q2.1
    have hw' : ({ w with heap := w.heap.setIfInBounds b (.cells cur' el (lo, hi')) } : World).heap[b]? = some (.cells cur' el (lo, hi')) := by simp [hblt]
    refine rehome_good (q := some (b, off)) (w' := { w with heap := w.heap.setIfInBounds b (.cells cur' el (lo, hi')) }) hR hid hd hk (by simp) rfl rfl rfl ?_ ?_ ?_ (hrun _ _ hap2) ?_ ?_
    ·intro b' _ hb'
     have : b ≠ b' := fun h => hb' ⟨(b, off), hκ, h⟩
     simp [Array.getElem?_setIfInBounds_ne this]
    ·rintro b' o' ⟨p0, h1, h2⟩
     rw [hκ] at h1; cases h1; subst h2
     exact cell_two_set hheap hsz' o'
    ·intro p0 hp0; cases hp0; exact .inr ⟨_, hκ, rfl⟩
    ·intro M
     refine ⟨hbig, ?_⟩
     rw [upd_new (mk_div _ _ _ (by omega)), mk_mod _ _ _ (by omega), if_pos rfl]
     refine ⟨by simpa using hblt, hnav, fun _ => ⟨cur', el, lo, hi', hw', by rw [hsz']; exact hfr⟩, ?_⟩
     have hboth := rt_arr_append (M.rt hrt) (M.rt hds)
     refine hboth.row (Lies.append ?_ ?_)
     ·intro j v hj
      have hjl : j < cs2.length := by
       by_cases h : j < cs2.length
       ·exact h
       ·rw [List.getElem?_eq_none (by omega)] at hj; cases hj
      have h1 := hlies j v hj
      unfold World.cell? at h1 ⊢
      simp only [hheap, Option.isSome_none, Bool.false_eq_true, if_false] at h1
      simp only [hw', Option.isSome_none, Bool.false_eq_true, if_false]
      rw [← Array.getElem?_toList, q2.2.2, if_neg (by omega), Array.getElem?_toList]
      exact h1
     ·intro j v hj
      have hjl : j < ds.length := by
       by_cases h : j < ds.length
       ·exact h
       ·rw [List.getElem?_eq_none (by omega)] at hj; cases hj
      unfold World.cell?
      simp only [hw', Option.isSome_none, Bool.false_eq_true, if_false]
      rw [← Array.getElem?_toList, q2.2.2, if_pos (by omega)]
      rw [show off + cs2.length + j - (off + xs.length * e'.size + 0) = j by omega]
      exact hj
    ·refine ⟨some ⟨b, off, none⟩, cap, by simp, by simpa using hroom, rfl, fun j hj => cell_some_set hheap hsz' _ (hcc j hj), hcm⟩
   ·-- no cells at all
    have hds0 : ds = [] := List.length_eq_zero_iff.1 (by omega)
    have hap2 := run_append_in (P := C.P) (w := w) (ty := o.type) (p := some ⟨b, off, none⟩) (n := xs.length) (m := ys.length) (cap := cap) (ds := []) (w' := w) ht hap hu hcells (hdsr w rfl).1 (by have := (hdsr w rfl).2 ys.length (Nat.le_refl _); rw [hft, hds0] at this; exact this) hroom
     (by simp [storeCells])
    have hy0 : ys.length = 0 := by
     rw [hds0] at hdl
     rcases Nat.mul_eq_zero.1 hdl.symm with h | h
     ·exact h
     ·omega
    have hys0 : ys = [] := List.length_eq_zero_iff.1 hy0
    refine rehome_good (q := some (b, off)) hR hid hd hk (Nat.le_refl _) rfl rfl rfl (fun _ _ _ => rfl) (fun _ _ _ => ⟨id, id⟩) (by intro p0 hp0; cases hp0; exact .inr ⟨_, hκ, rfl⟩) (hrun _ _ hap2) ?_ ⟨some ⟨b, off, none⟩, cap, by simp, by simpa using hroom, rfl, hcc, hcm⟩
    intro M
    refine ⟨hbig, ?_⟩
    rw [upd_new (mk_div _ _ _ (by omega)), mk_mod _ _ _ (by omega), if_pos rfl]
    refine ⟨hblt, hnav, fun _ => hfree rfl, ?_⟩
    intro j hj
    obtain ⟨ecs, r1, r2⟩ := hrow j (by simpa [hys0] using hj)
    refine ⟨ecs, r1, ?_⟩
    have : (xs ++ ys)[j] = xs[j]'(by simpa [hys0] using hj) := by simp [hys0]
    rw [this]; exact M.rt r2
 ·-- there is none
  have hap2 := run_append_out (P := C.P) (w := w) (ty := o.type) (p := p) (n := xs.length) (m := ys.length) (cap := cap) (ds := ds) (cs := cs) ht hap hu hcells hinf hz hb1 hb2 (fun w2 hw => (hdsr w2 hw).1)
   (fun w2 hw => by have := (hdsr w2 hw).2 ys.length (Nat.le_refl _); rwa [hft] at this) (fun w2 hw => by have := (hcsr w2 hw).2 xs.length (Nat.le_refl _); rw [hct, hv] at this; exact this) (by omega) hg
  have hge := grownCap_ge w (xs.length + ys.length) cap et
  have hzs : z.cells.size = e'.size := by have := isZ_len hzz; simpa using this
  have hnewsz : (cs.toArray ++ ds.toArray ++ Builtin.zeroCells z.cells (grownCap w (xs.length + ys.length) cap et - (xs.length + ys.length))).size = grownCap w (xs.length + ys.length) cap et * e'.size := by
   simp only [Array.size_append, List.size_toArray, size_zeroCells, hzs, hcl, hdl]
   rw [← Nat.add_mul, ← Nat.add_mul]; congr 1; omega
  refine rehome_good (q := some (w.heap.size, 0)) (w' := w.drew.alloc (.cells (cs.toArray ++ ds.toArray ++ Builtin.zeroCells z.cells (grownCap w (xs.length + ys.length) cap et - (xs.length + ys.length))) et)) hR hid hd hk (by simp) rfl rfl rfl (fun b' hb' _ => push_lt (w := w.drew) hb') ?_ ?_ (hrun _ _ hap2) ?_ ?_
  ·rintro b' o' ⟨p0, h1, h2⟩
   have hlt := (hR.ent k _ hk).lt h1
   rw [h2] at hlt
   have : (w.drew.alloc (.cells (cs.toArray ++ ds.toArray ++ Builtin.zeroCells z.cells (grownCap w (xs.length + ys.length) cap et - (xs.length + ys.length))) et)).cell? ⟨b', o', none⟩ = w.cell? ⟨b', o', none⟩ := cell_same (push_lt (w := w.drew) hlt) o'
   rw [this]; exact ⟨id, id⟩
  ·intro p0 hp0; cases hp0; exact .inl (Nat.le_refl _)
  ·intro M
   refine ⟨hbig, ?_⟩
   rw [upd_new (mk_div _ _ _ (by omega)), mk_mod _ _ _ (by omega), if_pos rfl]
   refine ⟨by simp, fun _ hav => by have := hR.avlt _ _ hav; omega, fun _ => ⟨_, et, 0, 0, push_eq (w := w.drew), .inl rfl⟩, ?_⟩
   have hboth := rt_arr_append (M.rt hcs) (M.rt hds)
   refine hboth.row (fun j v hj => ?_)
   refine push_lies (w := w.drew) j v ?_
   simp only [Array.toList_append, List.append_assoc]
   rw [← List.append_assoc, List.getElem?_append_left]
   ·simpa using hj
   ·by_cases h : j < (cs ++ ds).length
    ·simpa using h
    ·rw [List.getElem?_eq_none (by omega)] at hj; cases hj
  ·refine ⟨some ⟨w.heap.size, 0, none⟩, grownCap w (xs.length + ys.length) cap et, by simp, by simpa using hge, rfl, fun j hj => ?_, grownCap_le_maxLen w (xs.length + ys.length) cap et (by have : MAXL = 4611686018427387904 := rfl; simp at hbig; unfold maxLen; omega)⟩
   have hlt : 0 + j < (cs.toArray ++ ds.toArray ++ Builtin.zeroCells z.cells (grownCap w (xs.length + ys.length) cap et - (xs.length + ys.length))).size := by rw [hnewsz]; omega
   unfold World.cell?
   have hp := push_eq (w := w.drew) (o := .cells (cs.toArray ++ ds.toArray ++ Builtin.zeroCells z.cells (grownCap w (xs.length + ys.length) cap et - (xs.length + ys.length))) et)
   simp only [World.alloc] at hp ⊢
   simp only [World.size_drew] at hp
   simp only [hp]
   rw [Array.getElem?_eq_getElem hlt]; rfl
theorem elemC_cells {P : Program} {et : TypeId} {e : Ty} (hel : elemC P et = some e) : cellsT P et = some e.size := by
 obtain ⟨inf, z, hinf, hz, hzz, hsz, hpos, hb1, hb2⟩ := elemC_spec hel
 have : ∃ d, P.underlying et = some d := by
  unfold elemC at hel
  split at hel <;> try contradiction
  rename_i e1 i1 h1 h2
  have : tyOf P FUEL et ≠ none := by rw [h1]; simp
  unfold FUEL at this
  unfold tyOf at this
  cases hh : P.underlying et with
  | none => simp [hh] at this
  | some d => exact ⟨d, rfl⟩
 obtain ⟨d, hd'⟩ := this
 simp [cellsT, hd', hinf, hsz]
theorem opS_append_nil {tys : Array TypeId} {x y : Operand} (hR : RelSt E w0 own0 st D a.tmps w) (hid : i ∉ D) (ho : o.op = .call { callee := .builtin .append, args := #[x, y], argTypes := tys })
  (hs : evalS st.sl x = .nilsl)
  (h : opS C o st.ep i (evalS st.sl) st.tb = some r) (hg : ∀ g ∈ r.g, g = true) : OpGood C.P E w0 own0 st D i o r.v r.ef a w := by
 have hd := opS_lt h
 have hx := hR.eval x
 have hy := hR.eval y
 unfold opS at h
 rw [ho] at h
 simp only [hd, decide_true, Bool.not_true, Bool.false_eq_true, if_false, List.map_cons, List.map_nil, hs] at h
 unfold builtinS at h
 simp only at h
 split at h <;> try contradiction
 rename_i t ht
 split at h <;> try contradiction
 rename_i e he hap
 split at h <;> try contradiction
 rename_i ys hys
 simp only [Option.some.injEq] at h; subst h
 simp only [List.mem_cons, List.not_mem_nil, or_false, decide_eq_true_eq, forall_eq] at hg
 obtain ⟨ds, hds, hdsr⟩ := yok (P := C.P) hR hy hys
 rw [hs, relV_scalar rfl] at hx
 obtain ⟨p, hv⟩ := hx
 have hv := (List.cons.inj hv).1
 obtain ⟨et, hu, hel⟩ := sliceC_spec he
 obtain ⟨inf, z, hinf, hz, hzz, hsz, hpos, hb1, hb2⟩ := elemC_spec hel
 have hcells := elemC_cells hel
 have hdl := hds.length
 simp only [Ty.size] at hdl
 have hft : ds.take (ys.length * e.size) = ds := by rw [List.take_of_length_le (by omega)]
 have hbig : ys.length ≤ MAXL := by unfold SMALL at hg; unfold MAXL; omega
 have hrun : ∀ u w', (Builtin.append_ tys o.type #[.slice p 0 0, a.eval y]).run C.P w = .ok u w' → (execOp a.eval o).run C.P w = .ok (.value u) w' := by
  intro u w' hh
  unfold execOp; rw [ho]
  simp [resolve, invoke, builtin, hv, hh]
 have hm0 : mk st.ep i 0 / 64 = st.ep * 4096 + i := mk_div _ _ _ (by omega)
 by_cases hy0 : ys.length = 0
 ·have hds0 : ds = [] := List.length_eq_zero_iff.1 (by rw [hdl, hy0]; simp)
  have hap2 := run_append_in (P := C.P) (w := w) (ty := o.type) (p := p) (n := 0) (m := ys.length) (cap := 0) (ds := []) (w' := w) ht hap hu hcells (hdsr w rfl).1 (by have := (hdsr w rfl).2 ys.length (Nat.le_refl _); rw [hft, hds0] at this; exact this) (by omega)
   (by cases p <;> simp [storeCells])
  have hlast : st.tb.sets [(mk st.ep i 0, some (.buf e ys false))] (mk st.ep i 0) = some (.buf e ys false) := set_eq _ _ _
  refine turn_good (C := C) (E' := E.upd (st.ep * 4096 + i) fun _ => none) (w' := w) hR hid hd
   (turn_new hR hid hd (Nat.le_refl _) rfl rfl rfl (fun _ _ => rfl) ?_ (by simp) (by simp) ?_) (.inl (hrun _ _ hap2)) ?_
  ·intro p hp; simp at hp; subst hp; exact hm0
  ·intro k e' he' ht' M
   simp at he'
   obtain ⟨rfl, rfl⟩ := he'
   exact ⟨⟨hbig, by rw [upd_new hm0]; exact List.length_eq_zero_iff.1 hy0⟩, by simp [Ent.keys]⟩
  ·intro M
   refine ⟨?_, fun k hk' => by simp [keysOf] at hk'; subst hk'; exact mk_known (by omega)⟩
   rw [relV_scalar rfl]
   simp only [Rel, hlast]
   exact ⟨p, 0, by simp, by omega, by rw [upd_new hm0]⟩
 ·have hap2 := run_append_out (P := C.P) (w := w) (ty := o.type) (p := p) (n := 0) (m := ys.length) (cap := 0) (ds := ds) (cs := []) ht hap hu hcells hinf hz hb1 hb2 (fun w2 hw => (hdsr w2 hw).1)
   (fun w2 hw => by have := (hdsr w2 hw).2 ys.length (Nat.le_refl _); rwa [hft] at this) (fun w2 hw => by cases p <;> simp [Builtin.firstCells, loadCells, loadCellsFrom]) (by omega) (by omega)
  rw [Nat.zero_add] at hap2
  have hge := grownCap_ge w ys.length 0 et
  have hzs : z.cells.size = e.size := by have := isZ_len hzz; simpa using this
  have hnewsz : (([] : List Value).toArray ++ ds.toArray ++ Builtin.zeroCells z.cells (grownCap w ys.length 0 et - ys.length)).size = grownCap w ys.length 0 et * e.size := by
   simp only [Array.size_append, List.size_toArray, size_zeroCells, hzs, hdl, List.length_nil, Nat.zero_add]
   rw [← Nat.add_mul]; congr 1; omega
  have := row_good (C := C) (o := o) (e := e) (el := et) (xs := ys) (cs := ([] : List Value).toArray ++ ds.toArray ++ Builtin.zeroCells z.cells (grownCap w ys.length 0 et - ys.length)) (ks := []) (cap := grownCap w ys.length 0 et) (fz := (0, 0)) (s := .junk)
   (w' := w.drew.alloc (.cells (([] : List Value).toArray ++ ds.toArray ++ Builtin.zeroCells z.cells (grownCap w ys.length 0 et - ys.length)) et)) hR hid hd rfl rfl rfl rfl (.inl rfl)
   (hrun _ _ hap2) hbig (by omega) (by rw [hnewsz]; exact Nat.le_refl _) (grownCap_le_maxLen w ys.length 0 et (by have : MAXL = 4611686018427387904 := rfl; unfold maxLen; omega))
   (fun ok w' hk hc _ => ⟨ds, (Builtin.zeroCells z.cells (grownCap w ys.length 0 et - ys.length)).toList, by simp, Rt.mono hk hc hds⟩)
  simpa [freezes] using this
theorem copy_good {tys : Array TypeId} {x y : Operand} {k : Nat} {e : Ty} {xs ys : List e.den} {p : Option Addr} {cap : Nat} (hR : RelSt E w0 own0 st D a.tmps w) (hid : i ∉ D) (hd : i < 4096) (ho : o.op = .call { callee := .builtin .copy, args := #[x, y], argTypes := tys })
  (hk : st.tb k = some (.buf e xs false)) (hys : listOf st.tb e (evalS st.sl y) = some ys) (hc : (tys[0]?).bind (sliceC C.P) = some e)
  (hv : a.eval x = .slice p xs.length cap) (hc2 : ∀ b off, E.κ k = some (b, off) → p = some ⟨b, off, none⟩) :
  OpGood C.P E w0 own0 st D i o (.int .i64 (Nat.min ys.length xs.length)) [(k, some (.buf e (ys.take xs.length ++ xs.drop ys.length) false))] a w := by
 have hy := hR.eval y
 cases ht : tys[0]? with
 | none => simp [ht] at hc
 | some t =>
  simp only [ht, Option.bind_some] at hc
  obtain ⟨ds, hds, hdsr⟩ := yok (P := C.P) hR hy hys
  obtain ⟨hxl, hent⟩ := hR.ent k _ hk
  obtain ⟨et, hu, hel⟩ := sliceC_spec hc
  have hcells := elemC_cells hel
  have hkt : k / 64 ≠ st.ep * 4096 + i := (hR.keyT k _ hk).notFresh hid hd
  obtain ⟨m, hm⟩ : ∃ m, Nat.min ys.length xs.length = m := ⟨_, rfl⟩
  have hm3 : m ≤ ys.length ∧ m ≤ xs.length ∧ (m = ys.length ∨ m = xs.length) := by
   have : Nat.min ys.length xs.length = min ys.length xs.length := rfl
   omega
  rw [hm]
  obtain ⟨hmn, hmx, hm3⟩ := hm3
  have hres := rt_arr_take hds hmn
  have hfirst := (hdsr w rfl).2 _ hmn
  have hrun : ∀ w', (match p with | some a => storeCells a (ds.take (m * e.size)) | none => pure ()).run C.P w = .ok () w' → (execOp a.eval o).run C.P w = .ok (.value (.int .i64 m)) w' := by
   intro w' hh
   unfold execOp; rw [ho]
   have hb : (Builtin.copy_ tys o.type #[.slice p xs.length cap, a.eval y]).run C.P w = ((match p with | some a => storeCells a (ds.take (m * e.size)) | none => pure ()).run C.P w).andThen fun _ w2 => .ok (.int .i64 m) w2 := by
    unfold Builtin.copy_
    have hm' : min ys.length xs.length = m := hm
    cases p <;> simp [ht, run_underlying hu, (hdsr w rfl).1, run_sizeT hcells, hm', hm, hfirst, goInt]
   simp [resolve, invoke, builtin, hv, hb, hh]
  have hsc : (S.int .i64 m).isAgg = false ∧ keysOf (S.int .i64 m) = [] ∧ ∀ (w' : World) E' tb', Rel E' tb' w' (.int .i64 m) [.int .i64 m] :=
   ⟨rfl, rfl, fun _ _ _ => ⟨rfl, inK_len (by omega)⟩⟩
  have hcut : ys.take xs.length = ys.take m := by
   rcases hm3 with h | h
   ·rw [h, List.take_of_length_le (by omega), List.take_of_length_le (Nat.le_refl _)]
   ·rw [h]
  have hcut2 : xs.drop ys.length = xs.drop m := by
   rcases hm3 with h | h
   ·rw [h]
   ·rw [h, List.drop_eq_nil_of_le (by omega), List.drop_eq_nil_of_le (Nat.le_refl _)]
  rw [hcut, hcut2]
  have hnl : (ys.take m ++ xs.drop m).length = xs.length := by simp; omega
  have hsf : SameForm (.buf e xs false) (.buf e (ys.take m ++ xs.drop m) false) := ⟨rfl, hnl.symm⟩
  have hkk : ∀ j ∈ (Ent.buf e (ys.take m ++ xs.drop m) false).keys, Known st.ep (i :: D) j := by simp [Ent.keys]
  have same : m = 0 → (match p with | some a => storeCells a (ds.take (m * e.size)) | none => pure ()).run C.P w = .ok () w → OpGood C.P E w0 own0 st D i o (.int .i64 m) [(k, some (.buf e (ys.take m ++ xs.drop m) false))] a w := by
   intro h0 hst
   have heq : st.tb.sets [(k, some (.buf e (ys.take m ++ xs.drop m) false))] = st.tb := by
    funext j
    show (st.tb.set k _) j = _
    by_cases hj : j = k
    ·subst hj; rw [set_eq, hk, h0]; simp
    ·rw [set_ne _ hj]
   have hg := OpGood.value (P := C.P) (i := i) (o := o) hR (hrun w hst) (relV_int.2 ⟨rfl, inK_len (by omega)⟩) (v := .int .i64 m) (by simp [keysOf])
   unfold OpGood at hg ⊢
   rw [heq]
   exact hg
  cases hκ : E.κ k with
  | none =>
   rw [hκ] at hent
   have hx0 : xs.length = 0 := by rw [hent]; rfl
   have h0 : m = 0 := by omega
   refine same h0 ?_
   rw [h0]
   cases p <;> simp [storeCells]
  | some pq =>
   obtain ⟨b, off⟩ := pq
   rw [hκ] at hent
   obtain rfl := hc2 _ _ hκ
   obtain ⟨hblt, hnav, hfree, hrow⟩ := hent
   obtain ⟨cur, el, lo, hi', hheap, hfr⟩ := hfree rfl
   obtain ⟨cs, hlies, hrt⟩ := Row.flat (ok := E.ok st.tb) hrow
   have hcl := hrt.length
   have hrl := hres.length
   simp only [Ty.size] at hcl hrl
   have hle : m * e.size ≤ xs.length * e.size := Nat.mul_le_mul_right _ hmx
   by_cases hp0 : cs.length = 0
   ·have hpos := (elemC_spec hel)
    obtain ⟨_, _, _, _, _, _, hpos, _⟩ := hpos
    have hx0 : xs.length = 0 := by
     rw [hp0] at hcl
     rcases Nat.mul_eq_zero.1 hcl.symm with h | h
     ·exact h
     ·omega
    have h0 : m = 0 := by omega
    refine same h0 ?_
    rw [h0]
    simp [storeCells]
   ·have hfit := lies_bound hheap hlies (by omega)
    obtain ⟨cur', q1, q2⟩ := run_storeRow (P := C.P) (b := b) (el := el) (fz := (lo, hi')) off (ds.take (m * e.size)) 0 cur w hheap hfr (by omega) (Rt.one hres)
    have hsz' : cur'.size = cur.size := by simpa using q2.1
    have hw' : ({ w with heap := w.heap.setIfInBounds b (.cells cur' el (lo, hi')) } : World).heap[b]? = some (.cells cur' el (lo, hi')) := by simp [hblt]
    have hspl2 := spl_mk (cs := cs) (ds := ds.take (m * e.size)) (m := 0) (by omega)
    have := target_good (C := C) (o := o) (w' := { w with heap := w.heap.setIfInBounds b (.cells cur' el (lo, hi')) }) (ent := .buf e xs false) (L1 := []) (u := .int .i64 m) hR hid hd hk rfl hκ (by simp) rfl rfl rfl (fun b' hb' => by simp [Array.getElem?_setIfInBounds_ne (Ne.symm hb')]) (cell_two_set hheap hsz') (by simp) hsf (.inl (hrun _ q1)) ⟨hsc.1, hsc.2.1, hsc.2.2 _⟩ (fun M => ⟨⟨by rw [hnl]; exact hxl, by
     rw [(upd_old hkt).trans hκ]
     refine ⟨by simpa using hblt, hnav, fun _ => ⟨cur', el, lo, hi', hw', by rw [hsz']; exact hfr⟩, ?_⟩
     have hd2 := rt_arr_drop (m := m) (M.rt hrt)
     have hboth := rt_arr_append (M.rt hres) hd2
     have hll := Spl.lies hheap hw' hspl2 (by simpa using q2) hlies
     have hcell : cs.take 0 ++ ds.take (m * e.size) ++ cs.drop (0 + (ds.take (m * e.size)).length) = ds.take (m * e.size) ++ cs.drop (m * e.size) := by
      simp only [List.take_zero, List.nil_append, Nat.zero_add, hrl]
     rw [hcell] at hll
     exact hboth.row hll⟩, hkk⟩)
    simpa using this
theorem opS_copy {tys : Array TypeId} {x y : Operand} (hR : RelSt E w0 own0 st D a.tmps w) (hid : i ∉ D) (ho : o.op = .call { callee := .builtin .copy, args := #[x, y], argTypes := tys })
  (h : opS C o st.ep i (evalS st.sl) st.tb = some r) (hg : ∀ g ∈ r.g, g = true) : OpGood C.P E w0 own0 st D i o r.v r.ef a w := by
 have hd := opS_lt h
 have hx := hR.eval x
 unfold opS at h
 rw [ho] at h
 simp only [hd, decide_true, Bool.not_true, Bool.false_eq_true, if_false, List.map_cons, List.map_nil] at h
 unfold builtinS at h
 split at h <;> try contradiction
 ·rename_i b u k yS hb hl
  simp only [List.cons.injEq, and_true] at hl
  obtain ⟨hs, rfl⟩ := hl
  split at h <;> try contradiction
  rename_i e xs hk
  split at h <;> try contradiction
  rename_i ys hys
  split at h <;> try contradiction
  rename_i hc
  simp only [decide_eq_true_eq] at hc
  simp only [Option.some.injEq] at h; subst h
  rw [hs, relV_scalar rfl] at hx
  simp only [Rel, hk] at hx
  obtain ⟨p, cap, hv, hc1, hc2⟩ := hx
  exact copy_good hR hid hd ho hk hys hc (List.cons.inj hv).1 fun b off hκ => by rw [hκ] at hc2; exact hc2.1
 ·rename_i b u k n yS hb hl
  simp only [List.cons.injEq, and_true] at hl
  obtain ⟨hs, rfl⟩ := hl
  split at h <;> try contradiction
  rename_i e xs hk
  split at h <;> try contradiction
  rename_i ys hys
  split at h <;> try contradiction
  rename_i hc
  simp only [decide_eq_true_eq] at hc
  simp only [Option.some.injEq] at h; subst h
  simp only [List.mem_cons, List.not_mem_nil, or_false, decide_eq_true_eq, forall_eq] at hg
  rw [hs, relV_scalar rfl] at hx
  simp only [Rel, hk] at hx
  obtain ⟨b, o, hκ, n0, n1, hv⟩ := hx
  have hv := (List.cons.inj hv).1
  rw [hg, Int.toNat_natCast] at hv
  exact copy_good hR hid hd ho hk hys hc hv fun b' off' hκ' => by rw [hκ] at hκ'; cases hκ'; rfl
end
end Go.Ab
