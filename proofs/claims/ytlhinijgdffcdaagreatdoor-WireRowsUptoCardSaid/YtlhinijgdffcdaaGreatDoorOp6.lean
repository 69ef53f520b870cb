/- Rows of cells; places inside variables; conversions that leave memory as it is. -/
import Derived.Test.YtlhinijgdffcdaaGreatDoorOp5
import Derived.Laws.BytesArg
namespace Go.Ab
open Go
set_option linter.unusedVariables false
set_option linter.unusedSimpArgs false
def Row (w : World) (ok : Ty → Nat → Prop) (e : Ty) (b o : Nat) (xs : List e.den) : Prop := ∀ i (h : i < xs.length), ∃ ecs, Lies w b (o + i * e.size) ecs ∧ Rt w ok e ecs xs[i]
theorem Lies.append {w : World} {b o : Nat} {cs ds : List Value} (h : Lies w b o cs) (k : Lies w b (o + cs.length) ds) : Lies w b o (cs ++ ds) := by
 intro i v hi
 by_cases hl : i < cs.length
 ·rw [List.getElem?_append_left hl] at hi; exact h i v hi
 ·rw [List.getElem?_append_right (by omega)] at hi
  have := k _ v hi
  rwa [Nat.add_assoc, Nat.add_sub_cancel' (by omega)] at this
theorem rt_arr_nil {w : World} {ok : Ty → Nat → Prop} {e : Ty} : Rt w ok (.arr 0 e) [] [] := ⟨rfl, [], rfl, rfl, fun i h => by simp at h⟩
theorem rt_arr_cons {w : World} {ok : Ty → Nat → Prop} {e : Ty} {n : Nat} {cs ds : List Value} {x : e.den} {xs : List e.den} (h : Rt w ok e cs x) (k : Rt w ok (.arr n e) ds xs) :
  Rt w ok (.arr (n + 1) e) (cs ++ ds) (x :: xs) := by
 obtain ⟨hl, css, rfl, hn, hc⟩ := k
 refine ⟨by simp [hl], cs :: css, by simp, by simp [hn], fun i hi => ?_⟩
 cases i with
 | zero => exact ⟨cs, rfl, h⟩
 | succ i => obtain ⟨ecs, q1, q2⟩ := hc i (by simpa using hi); exact ⟨ecs, by simpa using q1, q2⟩
theorem rt_arr_append {w : World} {ok : Ty → Nat → Prop} {e : Ty} {n m : Nat} {cs ds : List Value} {xs ys : List e.den} (h : Rt w ok (.arr n e) cs xs) (k : Rt w ok (.arr m e) ds ys) :
  Rt w ok (.arr (n + m) e) (cs ++ ds) (xs ++ ys) := by
 obtain ⟨hl, css, rfl, hn, hc⟩ := h
 obtain ⟨kl, dss, rfl, kn, kc⟩ := k
 refine ⟨by simp [hl, kl], css ++ dss, by simp, by simp [hn, kn], fun i hi => ?_⟩
 by_cases hlt : i < xs.length
 ·obtain ⟨ecs, q1, q2⟩ := hc i hlt
  exact ⟨ecs, by rw [List.getElem?_append_left (by omega)]; exact q1, by rw [List.getElem_append_left hlt]; exact q2⟩
 ·have h2 : i - xs.length < ys.length := by simp at hi; omega
  obtain ⟨ecs, q1, q2⟩ := kc _ h2
  refine ⟨ecs, ?_, by rw [List.getElem_append_right (by omega)]; exact q2⟩
  rw [List.getElem?_append_right (by omega)]
  have : i - css.length = i - xs.length := by omega
  rw [this]; exact q1
theorem Row.flat {w : World} {ok : Ty → Nat → Prop} {e : Ty} {b : Nat} : ∀ {xs : List e.den} {o : Nat}, Row w ok e b o xs → ∃ cs, Lies w b o cs ∧ Rt w ok (.arr xs.length e) cs xs := by
 intro xs
 induction xs with
 | nil => intro o _; exact ⟨[], fun i v h => by simp at h, rt_arr_nil⟩
 | cons x r ih =>
  intro o h
  obtain ⟨ecs, q1, q2⟩ := h 0 (by simp)
  obtain ⟨ds, r1, r2⟩ := ih (o := o + e.size) (fun i hi => by
   obtain ⟨ecs, q1, q2⟩ := h (i + 1) (by simpa using hi)
   refine ⟨ecs, ?_, by simpa using q2⟩
   rwa [Nat.succ_mul, Nat.add_comm (i * e.size), ← Nat.add_assoc] at q1)
  simp only [Nat.zero_mul, Nat.add_zero] at q1
  simp only [List.getElem_cons_zero] at q2
  exact ⟨ecs ++ ds, q1.append (by rw [q2.length]; exact r1), rt_arr_cons q2 r2⟩
theorem Rt.pieces {w : World} {ok : Ty → Nat → Prop} {e : Ty} {n : Nat} {cs : List Value} {xs : List e.den} (h : Rt w ok (.arr n e) cs xs) {i : Nat} (hi : i < xs.length) :
  ∃ ecs, Sub cs (i * e.size) ecs ∧ Rt w ok e ecs xs[i] := by
 obtain ⟨hl, css, rfl, hn, hc⟩ := h
 have hm : ∀ c ∈ css, c.length = e.size := by
  intro c hcm
  obtain ⟨j, hj, rfl⟩ := List.getElem_of_mem hcm
  obtain ⟨q, hq, hqr⟩ := hc j (by omega)
  rw [List.getElem?_eq_getElem hj] at hq
  cases hq
  exact hqr.length
 obtain ⟨ecs, q1, q2⟩ := hc i hi
 exact ⟨ecs, Sub.flatten hm q1, q2⟩
theorem Rt.row {w : World} {ok : Ty → Nat → Prop} {e : Ty} {n b o : Nat} {cs : List Value} {xs : List e.den} (h : Rt w ok (.arr n e) cs xs) (hl : Lies w b o cs) : Row w ok e b o xs := fun i hi => by
 obtain ⟨ecs, q1, q2⟩ := h.pieces hi
 exact ⟨ecs, q1.lies hl, q2⟩
section
variable {E : Env} {w0 : World} {own0 : Nat → Bool → Prop} {st : St} {D : List Nat} {a : Act} {w : World} {C : Ctx} {o : Oper} {i : Nat} {r : OpR}
def ListAt (w : World) (ok : Ty → Nat → Prop) (e : Ty) (v : Value) (xs : List e.den) : Prop :=
 ∃ a cap, v = .slice a xs.length cap ∧ xs.length ≤ MAXL ∧ (xs = [] ∨ ∃ b o, a = some ⟨b, o, none⟩ ∧ b < w.heap.size ∧ Row w ok e b o xs)
theorem nw_list {tb : Tbl} : ∀ {e' e : Ty} {ys : List e'.den} {v : Value} {xs : List e.den} {Q : Prop}, RelV E tb w (.sl e' ys) v → unL e' e ys = some xs → ListAt w (E.ok tb) e v xs ∨ Q
 | .nw k, .int k', ys, v, xs, Q, hx, h => by
  simp only [unL] at h
  split at h <;> try contradiction
  rename_i hk; subst hk
  simp only [Option.some.injEq] at h; subst h
  rw [relV_scalar rfl] at hx
  obtain ⟨b, cap, hv, h1, h2, h3⟩ := hx
  refine .inl ⟨b, cap, (List.cons.inj hv).1, h2, ?_⟩
  rcases h3 with h3 | ⟨bb, oo, h4, _, h5, h6⟩
  ·exact .inl h3
  ·exact .inr ⟨bb, oo, h4, h5, h6⟩
 | .nw _, .nw _, _, _, _, _, _, h | .nw _, .bool, _, _, _, _, _, h | .nw _, .str, _, _, _, _, _, h | .nw _, .slice _, _, _, _, _, _, h | .nw _, .arr _ _, _, _, _, _, _, h | .nw _, .unit, _, _, _, _, _, h | .nw _, .pair _ _, _, _, _, _, _, h | .nw _, .rose _, _, _, _, _, _, h | .nw _, .err, _, _, _, _, _, h => by simp [unL] at h
 | .int _, _, _, _, _, _, _, h | .bool, _, _, _, _, _, _, h | .str, _, _, _, _, _, _, h | .slice _, _, _, _, _, _, _, h | .arr _ _, _, _, _, _, _, _, h | .unit, _, _, _, _, _, _, h | .pair _ _, _, _, _, _, _, _, h | .rose _, _, _, _, _, _, _, h | .err, _, _, _, _, _, _, h => by simp [unL] at h
theorem listOf_rel {e : Ty} {x : S} {v : Value} {xs : List e.den} (hR : RelSt E w0 own0 st D a.tmps w) (hx : RelV E st.tb w x v) (h : listOf st.tb e x = some xs) :
  ListAt w (E.ok st.tb) e v xs ∨ ∃ (he : e = .int .u8) (bs : ByteArray), v = .string bs ∧ (castL he xs) = bytesL bs ∧ bs.size ≤ MAXL := by
 unfold listOf at h
 split at h
 ·rename_i e' ys
  split at h
  rotate_left
  ·exact nw_list hx h
  rename_i he; subst he
  simp only [castL, Option.some.injEq] at h; subst h
  rw [relV_scalar rfl] at hx
  obtain ⟨b, cap, hv, h1, h2, h3⟩ := hx
  refine .inl ⟨b, cap, (List.cons.inj hv).1, h2, ?_⟩
  rcases h3 with h3 | ⟨bb, oo, h4, _, h5, h6⟩
  ·exact .inl h3
  ·exact .inr ⟨bb, oo, h4, h5, h6⟩
 ·simp only [Option.some.injEq] at h; subst h
  rw [relV_scalar rfl] at hx
  obtain ⟨b, hv⟩ := hx
  exact .inl ⟨b, 0, (List.cons.inj hv).1, by simp, .inl rfl⟩
 ·rename_i u k
  split at h <;> try contradiction
  rename_i e' ys fz hk
  split at h <;> try contradiction
  rename_i he; subst he
  simp only [castL, Option.some.injEq] at h; subst h
  rw [relV_scalar rfl] at hx
  simp only [Rel, hk] at hx
  obtain ⟨b, cap, hv, h1, h2⟩ := hx
  obtain ⟨h3, h4⟩ := hR.ent k _ hk
  refine .inl ⟨b, cap, (List.cons.inj hv).1, h3, ?_⟩
  cases hκ : E.κ k with
  | none => rw [hκ] at h4; exact .inl h4
  | some p =>
   obtain ⟨bb, oo⟩ := p
   rw [hκ] at h4 h2
   exact .inr ⟨bb, oo, h2.1, h4.1, h4.2.2.2⟩
 ·rename_i u k n
  split at h <;> try contradiction
  rename_i e' ys fz hk
  split at h <;> try contradiction
  rename_i he; subst he
  simp only [castL, Option.some.injEq] at h; subst h
  rw [relV_scalar rfl] at hx
  simp only [Rel, hk] at hx
  obtain ⟨b, o, hκ, n0, n1, hv⟩ := hx
  obtain ⟨h3, h4⟩ := hR.ent k _ hk
  rw [hκ] at h4
  have hlen : (ys.take n.toNat).length = n.toNat := by rw [List.length_take]; omega
  refine .inl ⟨_, ys.length, by rw [hlen]; exact (List.cons.inj hv).1, by rw [hlen]; omega, .inr ⟨b, o, rfl, h4.1, fun j hj => ?_⟩⟩
  rw [hlen] at hj
  obtain ⟨ecs, r1, r2⟩ := h4.2.2.2 j (by omega)
  refine ⟨ecs, r1, ?_⟩
  rw [List.getElem_take]
  exact r2
 ·rename_i s
  split at h <;> try contradiction
  simp only [Option.some.injEq] at h; subst h
  obtain ⟨bs, rfl, rfl, hl⟩ := relV_str.1 hx
  exact .inr ⟨rfl, bs, rfl, rfl, by rwa [bytesL_length] at hl⟩
 ·contradiction
theorem ListAt.cells {ok : Ty → Nat → Prop} {e : Ty} {v : Value} {xs : List e.den} (h : ListAt w ok e v xs) :
  ∃ a cap cs, v = .slice a xs.length cap ∧ Rt w ok (.arr xs.length e) cs xs ∧ (xs = [] ∨ ∃ b o, a = some ⟨b, o, none⟩ ∧ b < w.heap.size ∧ Lies w b o cs) := by
 obtain ⟨p, cap, h1, h2, h3⟩ := h
 rcases h3 with rfl | ⟨b, o, h4, h5, h6⟩
 ·exact ⟨p, cap, [], h1, rt_arr_nil, .inl rfl⟩
 ·obtain ⟨cs, q1, q2⟩ := h6.flat
  exact ⟨p, cap, cs, h1, q2, .inr ⟨b, o, h4, h5, q1⟩⟩
theorem rt_u8 {ok : Ty → Nat → Prop} {n : Nat} {cs : List Value} {xs : List Int} (h : Rt w ok (.arr n (.int .u8)) cs xs) : ∀ x ∈ xs, 0 ≤ x ∧ x ≤ 255 := by
 obtain ⟨hl, css, rfl, hn, hc⟩ := h
 intro x hx
 obtain ⟨j, hj, rfl⟩ := List.getElem_of_mem hx
 obtain ⟨e, _, _, h3⟩ := hc j hj
 rw [inK_iff] at h3
 simpa [IntKind.min, IntKind.max, IntKind.signed, IntKind.bits] using h3
theorem bytesL_strOfNums {xs : List Int} (h : ∀ x ∈ xs, 0 ≤ x ∧ x ≤ 255) : bytesL (strOfNums xs) = xs := by
 unfold bytesL
 rw [strOfNums_data, List.map_map]
 conv => rhs; rw [← List.map_id xs]
 apply List.map_congr_left
 intro x hx
 have := h x hx
 simp
 omega
theorem convert_bytes {P : Program} {src dst e : TypeId} {v : Value} {xs : List Int} {ok : Ty → Nat → Prop} (hs : P.underlying src = some (.slice e)) (he : P.underlying e = some (.int .u8)) (hd : P.underlying dst = some .string)
  (h : ListAt w ok (.int .u8) v xs) : ∃ bs, (convert src dst v).run P w = .ok (.string bs) w ∧ bytesL bs = xs ∧ xs.length ≤ MAXL := by
 obtain ⟨q, cap', cs, h4, h5, h6⟩ := h.cells
 obtain ⟨p, cap, h1, h2, h3⟩ := h
 have hb := bytesL_strOfNums (rt_u8 h5)
 subst h1
 cases p with
 | none =>
  have hx : xs = [] := h3.resolve_right (by rintro ⟨b, o, h, _⟩; cases h)
  subst hx
  exact ⟨_, run_convert_bytes_nil w src e hs he _ _ dst hd, rfl, by simp⟩
 | some p =>
  refine ⟨strOfNums xs, ?_, hb, h2⟩
  rcases h3 with hx | ⟨b, o, hp, _, hrow⟩
  ·subst hx
   rw [run_convert_bytes_string w src dst e _ _ _ hs he hd, run_bytesToString w p _ cap [] (by simp [loadCells, loadCellsFrom])]
   rfl
  ·cases hp
   refine run_convert_bytes_arg w src e hs he b o xs.length cap xs rfl ?_ dst hd
   intro i hi
   obtain ⟨ecs, q1, q2, _⟩ := hrow i hi
   have := q1 0 (.int .u8 xs[i]) (by rw [q2]; rfl)
   simp only [Ty.size, Nat.mul_one, Nat.add_zero] at this
   rw [this, List.getD_eq_getElem?_getD, List.getElem?_eq_getElem hi]; rfl
theorem run_convert_intS {P : Program} {src dst : TypeId} {d : TypeDesc} {k : IntKind} {k0 : IntKind} {n : Int} (hs : P.underlying src = some d) (hd : P.underlying dst = some (.int k)) :
  (convert src dst (.int k0 n)).run P w = .ok (.int k (k.wrap n)) w := by
 simp [convert, run_underlying hs, run_underlying hd, Conv.intToInt]
theorem run_convert_strS {P : Program} {src dst : TypeId} {d : TypeDesc} {s : ByteArray} (hs : P.underlying src = some d) (hd : P.underlying dst = some .string) :
  (convert src dst (.string s)).run P w = .ok (.string s) w := by
 simp [convert, run_underlying hs, run_underlying hd]
theorem opS_convert_same {src dst : TypeId} {x : Operand} (hR : RelSt E w0 own0 st D a.tmps w) (ho : o.op = .convert src dst x)
  (hn : ∀ e s, C.P.underlying dst = some (.slice e) → evalS st.sl x = .str s → False) (hno : (decide (src = dst) && isOwnS (evalS st.sl x)) = false)
  (h : opS C o st.ep i (evalS st.sl) st.tb = some r) : OpGood C.P E w0 own0 st D i o r.v r.ef a w := by
 have hd := opS_lt h
 have hx := hR.eval x
 unfold opS at h
 rw [ho] at h
 simp only [hd, decide_true, Bool.not_true, Bool.false_eq_true, if_false] at h
 rw [if_neg (by rw [hno]; simp)] at h
 have hrun : ∀ u, (convert src dst (a.eval x)).run C.P w = .ok u w → (execOp a.eval o).run C.P w = .ok (.value u) w := by
  intro u hu
  unfold execOp; rw [ho]; simp [hu]
 unfold convS at h
 split at h <;> try contradiction
 ·rename_i d k k0 n h1 h2 hs
  rw [hs] at hx
  simp [ok] at h; subst h
  obtain ⟨hv, _⟩ := relV_int.1 hx
  exact OpGood.value hR (hrun _ (by rw [hv]; exact run_convert_intS h1 h2)) (relV_int.2 ⟨rfl, inK_wrap _ _⟩) (by simp [keysOf])
 ·rename_i d s h1 h2 hs
  rw [hs] at hx
  simp [ok] at h; subst h
  obtain ⟨bs, hv, q1, q2⟩ := relV_str.1 hx
  exact OpGood.value hR (hrun _ (by rw [hv]; exact run_convert_strS h1 h2)) (relV_str.2 ⟨bs, rfl, q1, q2⟩) (by simp [keysOf])
 ·rename_i e s' h1 h2 hs
  split at h <;> try contradiction
  rename_i he
  cases hl : listOf st.tb (.int .u8) (evalS st.sl x) with
  | none => simp [hl] at h
  | some xs =>
   simp [hl, ok] at h; subst h
   rcases listOf_rel hR hx hl with hla | ⟨_, bs, hv, hb, hl2⟩
   ·obtain ⟨bs, q1, q2, q3⟩ := convert_bytes h1 he h2 hla
    exact OpGood.value hR (hrun _ q1) (relV_str.2 ⟨bs, rfl, q2.symm, q3⟩) (by simp [keysOf])
   ·exact OpGood.value hR (hrun _ (by rw [hv]; exact run_convert_strS h1 h2)) (relV_str.2 ⟨bs, rfl, hb, by rw [show xs = bytesL bs from hb, bytesL_length]; exact hl2⟩) (by simp [keysOf])
 ·rename_i h1 h2 hs
  exact (hn _ _ h2 hs).elim
theorem opS_fieldAddr {t : TypeId} {x : Operand} {n : Nat} (hgl : E.gl = C.glob) (hR : RelSt E w0 own0 st D a.tmps w) (ho : o.op = .fieldAddr t x n) (h : opS C o st.ep i (evalS st.sl) st.tb = some r) :
  OpGood C.P E w0 own0 st D i o r.v r.ef a w := by
 have hd := opS_lt h
 have hx := hR.eval x
 have hk := hR.evalKeys x
 unfold opS at h
 rw [ho] at h
 simp only [hd, decide_true, Bool.not_true, Bool.false_eq_true, if_false] at h
 split at h <;> try contradiction
 rename_i fs hu
 split at h <;> try contradiction
 rename_i f hf
 split at h <;> try contradiction
 rename_i m hm
 have hrun : ∀ b off, a.eval x = .pointer (some ⟨b, off, none⟩) → (execOp a.eval o).run C.P w = .ok (.value (.pointer (some ⟨b, off + f.offset, none⟩))) w := by
  intro b off hv
  unfold execOp; rw [ho]
  simp [Instr.fieldAt, run_underlying hu, hf, hv, Instr.sureAddr, fieldPlace, run_sizeT hm, addr_add]
 split at h <;> try contradiction
 ·rename_i k p hs
  rw [hs, relV_scalar rfl] at hx
  simp only [Rel] at hx
  cases he : st.tb k with
  | none => simp [he] at h
  | some ent =>
   rw [he] at hx
   simp only [he, Option.bind_some] at h
   obtain ⟨hp, b, off, hκ, hv⟩ := hx
   have hv := (List.cons.inj hv).1
   cases hge : getE ent p with
   | none => simp [hge] at h
   | some s =>
    cases s <;> simp only [hge] at h <;> try contradiction
    rename_i ss
    split at h <;> try contradiction
    rename_i hc
    simp only [Bool.and_eq_true, decide_eq_true_eq] at hc
    simp only [ok, Option.some.injEq] at h; subst h
    obtain ⟨q1, q2⟩ := getE_fld hp hge hc.2
    refine OpGood.value hR (hrun _ _ hv) ?_ (by rw [hs] at hk; simpa [keysOf] using hk)
    rw [relV_scalar rfl]
    simp only [Rel, he]
    exact ⟨q1, b, off, hκ, by rw [q2, hc.1, Nat.add_assoc]⟩
 ·rename_i u y hs
  rw [hs, relV_scalar rfl] at hx
  simp only [Rel] at hx
  obtain ⟨b, off, ecs, hv, h1, h2, h3, h4⟩ := hx
  have hv := (List.cons.inj hv).1
  cases hdf : denFld u y n with
  | none => simp [hdf] at h
  | some s =>
   simp only [hdf] at h
   split at h <;> try contradiction
   rename_i hc
   simp only [ok, Option.some.injEq] at h; subst h
   obtain ⟨u', y', ds, rfl, q2, q3⟩ := denFld_rel h4 hdf
   refine OpGood.value hR (hrun _ _ hv) ?_ (by simp [keysOf])
   rw [relV_scalar rfl]
   simp only [Rel]
   exact ⟨b, off + f.offset, ds, rfl, h1, h2, by rw [hc]; exact q2.lies h3, q3⟩
 ·rename_i g p hs
  rw [hs, relV_scalar rfl] at hx
  simp only [Rel] at hx
  rw [← hgl] at h
  cases hgs : E.gl g with
  | none => simp [hgs] at h
  | some s0 =>
   rw [hgs] at hx
   simp only [hgs, Option.bind_some] at h
   obtain ⟨hp, hv⟩ := hx
   have hv := (List.cons.inj hv).1
   cases hge : getS p s0 with
   | none => simp [hge] at h
   | some s =>
    cases s <;> simp only [hge] at h <;> try contradiction
    rename_i ss
    split at h <;> try contradiction
    rename_i hc
    simp only [Bool.and_eq_true, decide_eq_true_eq] at hc
    simp only [ok, Option.some.injEq] at h; subst h
    obtain ⟨q1, q2⟩ := getS_fld hp hge hc.2
    refine OpGood.value hR (hrun _ _ hv) ?_ (by simp [keysOf])
    rw [relV_scalar rfl]
    simp only [Rel, hgs]
    exact ⟨q1, by rw [q2, hc.1]⟩
theorem opS_indexAddr {t : TypeId} {x y : Operand} (hgl : E.gl = C.glob) (hR : RelSt E w0 own0 st D a.tmps w) (ho : o.op = .indexAddr t x y) (h : opS C o st.ep i (evalS st.sl) st.tb = some r) (hg : ∀ g ∈ r.g, g = true) :
  OpGood C.P E w0 own0 st D i o r.v r.ef a w := by
 have hd := opS_lt h
 have hx := hR.eval x
 have hk := hR.evalKeys x
 have hy := hR.eval y
 unfold opS at h
 rw [ho] at h
 simp only [hd, decide_true, Bool.not_true, Bool.false_eq_true, if_false] at h
 split at h <;> try contradiction
 rename_i kk n hn
 rw [hn] at hy
 obtain ⟨hyv, _⟩ := relV_int.1 hy
 have hrunA : ∀ len et b off (m : Nat), C.P.underlying t = some (.array len et) → cellsT C.P et = some m → 0 ≤ n → n < len → a.eval x = .pointer (some ⟨b, off, none⟩) →
   (execOp a.eval o).run C.P w = .ok (.value (.pointer (some ⟨b, off + n.toNat * m, none⟩))) w := by
  intro len et b off m hu hm h0 h1 hv
  unfold execOp; rw [ho]
  simp [Instr.indexAt, run_underlying hu, hv, hyv, asIntOf, Instr.sureAddr, run_sizeT hm, h0, h1, addr_add]
 have hrunS : ∀ et b off (m len cap : Nat), C.P.underlying t = some (.slice et) → cellsT C.P et = some m → 0 ≤ n → n < len → a.eval x = .slice (some ⟨b, off, none⟩) len cap →
   (execOp a.eval o).run C.P w = .ok (.value (.pointer (some ⟨b, off + n.toNat * m, none⟩))) w := by
  intro et b off m len cap hu hm h0 h1 hv
  unfold execOp; rw [ho]
  simp [Instr.indexAt, run_underlying hu, hv, hyv, asIntOf, Instr.sureAddr, run_sizeT hm, h0, h1, addr_add]
 split at h <;> try contradiction
 ·rename_i len et k p hu hs
  rw [hs, relV_scalar rfl] at hx
  simp only [Rel] at hx
  cases he : st.tb k with
  | none => simp [he] at h
  | some ent =>
   rw [he] at hx
   simp only [he, Option.bind_some] at h
   obtain ⟨hp, b, off, hκ, hv⟩ := hx
   have hv := (List.cons.inj hv).1
   cases hge : getE ent p with
   | none => simp [hge] at h
   | some s =>
    cases s <;> simp only [hge] at h <;> try contradiction
    rename_i m e ys
    split at h <;> try contradiction
    rename_i hc
    simp only [Bool.and_eq_true, decide_eq_true_eq, beq_iff_eq] at hc
    simp only [Option.some.injEq] at h; subst h
    simp only [List.mem_cons, List.not_mem_nil, or_false, forall_eq_or_imp, decide_eq_true_eq, forall_eq] at hg
    obtain ⟨q1, q2⟩ := getE_idx hp hge hg.1 (by rw [← hc.1]; exact hg.2)
    refine OpGood.value hR (hrunA _ _ _ _ _ hu hc.2 hg.1 hg.2 hv) ?_ (by rw [hs] at hk; simpa [keysOf] using hk)
    rw [relV_scalar rfl]
    simp only [Rel, he]
    exact ⟨q1, b, off, hκ, by rw [q2, Nat.add_assoc]⟩
 ·rename_i len et g p hu hs
  rw [hs, relV_scalar rfl] at hx
  simp only [Rel] at hx
  rw [← hgl] at h
  cases hgs : E.gl g with
  | none => simp [hgs] at h
  | some s0 =>
   rw [hgs] at hx
   simp only [hgs, Option.bind_some] at h
   obtain ⟨hp, hv⟩ := hx
   have hv := (List.cons.inj hv).1
   cases hge : getS p s0 with
   | none => simp [hge] at h
   | some s =>
    cases s <;> simp only [hge] at h <;> try contradiction
    rename_i m e ys
    split at h <;> try contradiction
    rename_i hc
    simp only [Bool.and_eq_true, decide_eq_true_eq, beq_iff_eq] at hc
    simp only [Option.some.injEq] at h; subst h
    simp only [List.mem_cons, List.not_mem_nil, or_false, forall_eq_or_imp, decide_eq_true_eq, forall_eq] at hg
    obtain ⟨q1, q2⟩ := getS_idx hp hge hg.1 (by rw [← hc.1]; exact hg.2)
    refine OpGood.value hR (hrunA _ _ _ _ _ hu hc.2 hg.1 hg.2 hv) ?_ (by simp [keysOf])
    rw [relV_scalar rfl]
    simp only [Rel, hgs]
    exact ⟨q1, by rw [q2]⟩
 ·rename_i len et m e xs hu hs
  rw [hs, relV_scalar rfl] at hx
  simp only [Rel] at hx
  obtain ⟨b, off, ecs, hv, h1, h2, h3, h4⟩ := hx
  have hv := (List.cons.inj hv).1
  split at h <;> try contradiction
  rename_i hc
  simp only [Bool.and_eq_true, decide_eq_true_eq, beq_iff_eq] at hc
  simp only [Option.some.injEq] at h; subst h
  simp only [List.mem_cons, List.not_mem_nil, or_false, forall_eq_or_imp, decide_eq_true_eq, forall_eq] at hg
  have hl : xs.length = m := h4.1
  have hi : n.toNat < xs.length := by omega
  obtain ⟨ds, q1, q2⟩ := h4.pieces hi
  refine OpGood.value hR (hrunA _ _ _ _ _ hu hc.2 hg.1 hg.2 hv) ?_ (by simp [keysOf])
  rw [relV_scalar rfl]
  simp only [Rel]
  exact ⟨b, off + n.toNat * e.size, ds, rfl, h1, h2, q1.lies h3, by rw [getA_eq hi]; exact q2⟩
 ·rename_i et e xs hu hs
  rw [hs, relV_scalar rfl] at hx
  simp only [Rel] at hx
  obtain ⟨p, cap, hv, h1, h2, h3⟩ := hx
  have hv := (List.cons.inj hv).1
  split at h <;> try contradiction
  rename_i hc
  simp only [Option.some.injEq] at h; subst h
  simp only [List.mem_cons, List.not_mem_nil, or_false, forall_eq_or_imp, decide_eq_true_eq, forall_eq] at hg
  have hi : n.toNat < xs.length := by omega
  rcases h3 with rfl | ⟨b, off, rfl, hok, hb, hrow⟩
  ·simp at hi
  ·obtain ⟨ds, q1, q2⟩ := hrow n.toNat hi
   refine OpGood.value hR (hrunS _ _ _ _ _ _ hu hc hg.1 hg.2 hv) ?_ (by simp [keysOf])
   rw [relV_scalar rfl]
   simp only [Rel]
   exact ⟨b, off + n.toNat * e.size, ds, rfl, ⟨_, hok⟩, hb, q1, by rw [getA_eq hi]; exact q2⟩
 ·rename_i et e0 k hu hs
  rw [hs, relV_scalar rfl] at hx
  simp only [Rel] at hx
  split at h <;> try contradiction
  rename_i e xs fz he
  rw [he] at hx
  obtain ⟨p, cap, hv, h1, h2⟩ := hx
  have hv := (List.cons.inj hv).1
  split at h <;> try contradiction
  rename_i hc
  simp only [Option.some.injEq] at h; subst h
  simp only [List.mem_cons, List.not_mem_nil, or_false, forall_eq_or_imp, decide_eq_true_eq, forall_eq] at hg
  have hi : n.toNat < xs.length := by omega
  have hent := (hR.ent k _ he).2
  cases hκ : E.κ k with
  | none => rw [hκ] at hent; subst hent; simp at hi
  | some q =>
   obtain ⟨b, off⟩ := q
   rw [hκ] at h2
   obtain ⟨rfl, _⟩ := h2
   refine OpGood.value hR (hrunS _ _ _ _ _ _ hu hc hg.1 hg.2 hv) ?_ (by rw [hs] at hk; simpa [keysOf] using hk)
   rw [relV_scalar rfl]
   simp only [Rel, he]
   exact ⟨⟨hg.1, hi, by simp [pathT]⟩, b, off, hκ, by simp [offE, offT]⟩
 ·rename_i et e0 k m hu hs
  rw [hs, relV_scalar rfl] at hx
  simp only [Rel] at hx
  split at h <;> try contradiction
  rename_i e xs fz he
  rw [he] at hx
  obtain ⟨b, off, hκ, n0, n1, hv⟩ := hx
  have hv := (List.cons.inj hv).1
  split at h <;> try contradiction
  rename_i hc
  simp only [Option.some.injEq] at h; subst h
  simp only [List.mem_cons, List.not_mem_nil, or_false, forall_eq_or_imp, decide_eq_true_eq, forall_eq] at hg
  have hi : n.toNat < xs.length := by omega
  refine OpGood.value hR (hrunS _ _ _ _ _ _ hu hc hg.1 (by omega) hv) ?_ (by rw [hs] at hk; simpa [keysOf] using hk)
  rw [relV_scalar rfl]
  simp only [Rel, he]
  exact ⟨⟨hg.1, hi, by simp [pathT]⟩, b, off, hκ, by simp [offE, offT]⟩
end
end Go.Ab
