/- Parts of values, lengths, conversions, places. -/
import Derived.Test.YtlhinijgdffcdaaGreatDoorOp4
namespace Go.Ab
open Go
set_option linter.unusedVariables false
set_option linter.unusedSimpArgs false
theorem liftL_end : ∀ {t : Ty} (x : t.den) (l : List S), t.chain = true → offL (liftL t x ++ l) t.nfld = t.size
 | .pair a b, x, l, h => by
  simp only [liftL, List.cons_append, Ty.nfld, offL, lift_size, Ty.size]
  rw [liftL_end (t := b) x.2 l h]
 | .unit, x, l, h => by simp [Ty.nfld, offL, Ty.size]
 | .int _, x, l, h | .nw _, x, l, h | .bool, x, l, h | .str, x, l, h | .slice _, x, l, h | .arr _ _, x, l, h | .rose _, x, l, h | .err, x, l, h => by simp [Ty.chain] at h
theorem liftL_app : ∀ {t : Ty} (x : t.den) (i : Nat) (l : List S), pathBT t [.fld i] = true → offT t [.fld i] = offL (liftL t x ++ l) i
 | .pair a b, x, 0, l, _ => by simp [offT, liftL, offL]
 | .pair a b, x, i + 1, l, h => by
  simp only [pathBT] at h
  simp only [offT, liftL, List.cons_append, offL, lift_size]
  rw [liftL_app (t := b) x.2 i l h]
 | .rose a, x, i, l, h => by
  simp only [pathBT] at h
  simp only [offT, liftL]
  rw [List.append_assoc]
  by_cases hi : i < a.nfld
  ·rw [if_pos hi] at h ⊢
   exact liftL_app (t := a) x.lab i _ h
  ·rw [if_neg hi] at h ⊢
   simp only [Bool.and_eq_true, decide_eq_true_eq] at h
   rw [h.1.1]
   exact (liftL_end (t := a) x.lab _ h.1.2).symm
 | .int _, x, i, l, h | .nw _, x, i, l, h | .bool, x, i, l, h | .str, x, i, l, h | .slice _, x, i, l, h | .unit, x, i, l, h | .err, x, i, l, h => by simp [pathBT] at h
 | .arr _ _, x, i, l, h => by simp [pathBT] at h
theorem liftL_fld {t : Ty} (x : t.den) (i : Nat) (h : pathBT t [.fld i] = true) : offT t [.fld i] = offL (liftL t x) i := by
 have := liftL_app x i [] h
 rwa [List.append_nil] at this
theorem pathT_one : ∀ {t : Ty} {i : Nat}, pathBT t [.fld i] = true → pathT t [.fld i]
 | .pair a b, 0, _ => by simp [pathT]
 | .pair a b, i + 1, h => by simp only [pathBT] at h; simp only [pathT]; exact pathT_one h
 | .rose a, i, h => by
  simp only [pathBT] at h
  simp only [pathT]
  by_cases hi : i < a.nfld
  ·rw [if_pos hi] at h ⊢; exact pathT_one h
  ·rw [if_neg hi] at h ⊢
   simp only [Bool.and_eq_true, decide_eq_true_eq] at h
   exact ⟨h.1.1, h.1.2, trivial⟩
 | .int _, i, h | .nw _, i, h | .bool, i, h | .str, i, h | .slice _, i, h | .unit, i, h | .err, i, h => by simp [pathBT] at h
 | .arr _ _, i, h => by simp [pathBT] at h
theorem getT_fld : ∀ {t : Ty} {p : List Step} {x : t.den} {ss : List S} {i : Nat}, pathT t p → getT t x p = some (.st ss) → pathBT t (p ++ [.fld i]) = true →
  pathT t (p ++ [.fld i]) ∧ offT t (p ++ [.fld i]) = offT t p + offL ss i := by
 intro t
 induction t with
 | int k | nw k | bool | str | slice e _ | unit | err =>
  intro p x ss i hp hg hb
  cases p with
  | nil => simp [pathBT] at hb
  | cons s p => simp [pathT] at hp
 | arr n e ih =>
  intro p x ss i hp hg hb
  cases p with
  | nil => simp [pathBT] at hb
  | cons s p =>
   cases s with
   | fld j => simp [pathT] at hp
   | idx j =>
    simp only [pathT] at hp
    simp only [getT] at hg
    simp only [List.cons_append, pathBT] at hb
    obtain ⟨q1, q2⟩ := ih hp.2.2 hg hb
    simp only [List.cons_append, pathT, offT, q2]
    exact ⟨⟨hp.1, hp.2.1, q1⟩, by omega⟩
 | pair a b iha ihb =>
  intro p x ss i hp hg hb
  cases p with
  | nil =>
   simp only [getT, lift, Option.some.injEq, S.st.injEq] at hg
   subst hg
   refine ⟨pathT_one (by simpa using hb), ?_⟩
   have := liftL_fld (t := .pair a b) x i (by simpa using hb)
   simp only [liftL] at this
   simpa [offT] using this
  | cons s p =>
   cases s with
   | idx j => simp [pathT] at hp
   | fld j =>
    cases j with
    | zero =>
     simp only [pathT] at hp
     simp only [getT] at hg
     simp only [List.cons_append, pathBT] at hb
     obtain ⟨q1, q2⟩ := iha hp hg hb
     simp only [List.cons_append, pathT, offT]
     exact ⟨q1, q2⟩
    | succ j =>
     simp only [pathT] at hp
     simp only [getT] at hg
     simp only [List.cons_append, pathBT] at hb
     obtain ⟨q1, q2⟩ := ihb (p := .fld j :: p) hp hg (by simpa using hb)
     simp only [List.cons_append, pathT, offT] at q1 q2 ⊢
     exact ⟨q1, by omega⟩
 | rose a ih =>
  intro p x ss i hp hg hb
  cases p with
  | nil =>
   simp only [getT, lift, Option.some.injEq, S.st.injEq] at hg
   subst hg
   refine ⟨pathT_one (by simpa using hb), ?_⟩
   have := liftL_fld (t := .rose a) x i (by simpa using hb)
   simp only [liftL] at this
   simpa [offT] using this
  | cons s p =>
   cases s with
   | idx j => simp [pathT] at hp
   | fld j =>
    simp only [pathT] at hp
    simp only [getT] at hg
    simp only [List.cons_append, pathBT] at hb
    by_cases hj : j < a.nfld
    ·rw [if_pos hj] at hp hg hb
     obtain ⟨q1, q2⟩ := ih (p := .fld j :: p) hp hg (by simpa using hb)
     simp only [List.cons_append, pathT, offT, if_pos hj] at q1 q2 ⊢
     exact ⟨q1, q2⟩
    ·rw [if_neg hj] at hp hg hb
     obtain ⟨rfl, _, rfl⟩ := hp
     simp at hg
theorem getT_idx : ∀ {t : Ty} {p : List Step} {x : t.den} {m : Nat} {e : Ty} {ys : List e.den} {n : Int}, pathT t p → getT t x p = some (.arr m e ys) → 0 ≤ n → n < m →
  pathT t (p ++ [.idx n]) ∧ offT t (p ++ [.idx n]) = offT t p + n.toNat * e.size := by
 intro t
 induction t with
 | int k | nw k | bool | str | slice e _ | unit | err =>
  intro p x m e ys n hp hg h0 h1
  cases p with
  | nil => simp [getT, lift] at hg
  | cons s p => simp [pathT] at hp
 | arr k u ih =>
  intro p x m e ys n hp hg h0 h1
  cases p with
  | nil =>
   simp only [getT, lift, Option.some.injEq, S.arr.injEq] at hg
   obtain ⟨rfl, rfl, _⟩ := hg
   simp only [List.nil_append, pathT, offT]
   exact ⟨⟨h0, by omega, trivial⟩, by omega⟩
  | cons s p =>
   cases s with
   | fld j => simp [pathT] at hp
   | idx j =>
    simp only [pathT] at hp
    simp only [getT] at hg
    obtain ⟨q1, q2⟩ := ih hp.2.2 hg h0 h1
    simp only [List.cons_append, pathT, offT, q2]
    exact ⟨⟨hp.1, hp.2.1, q1⟩, by omega⟩
 | pair a b iha ihb =>
  intro p x m e ys n hp hg h0 h1
  cases p with
  | nil => simp [getT, lift] at hg
  | cons s p =>
   cases s with
   | idx j => simp [pathT] at hp
   | fld j =>
    cases j with
    | zero =>
     simp only [pathT] at hp
     simp only [getT] at hg
     obtain ⟨q1, q2⟩ := iha hp hg h0 h1
     simp only [List.cons_append, pathT, offT]
     exact ⟨q1, q2⟩
    | succ j =>
     simp only [pathT] at hp
     simp only [getT] at hg
     obtain ⟨q1, q2⟩ := ihb (p := .fld j :: p) hp hg h0 h1
     simp only [List.cons_append, pathT, offT] at q1 q2 ⊢
     exact ⟨q1, by omega⟩
 | rose a ih =>
  intro p x m e ys n hp hg h0 h1
  cases p with
  | nil => simp [getT, lift] at hg
  | cons s p =>
   cases s with
   | idx j => simp [pathT] at hp
   | fld j =>
    simp only [pathT] at hp
    simp only [getT] at hg
    by_cases hj : j < a.nfld
    ·rw [if_pos hj] at hp hg
     obtain ⟨q1, q2⟩ := ih (p := .fld j :: p) hp hg h0 h1
     simp only [List.cons_append, pathT, offT, if_pos hj] at q1 q2 ⊢
     exact ⟨q1, q2⟩
    ·rw [if_neg hj] at hp hg
     obtain ⟨rfl, _, rfl⟩ := hp
     simp at hg
theorem getS_fld : ∀ {p : List Step} {s : S} {ss : List S} {i : Nat}, pathS p s → getS p s = some (.st ss) → pathBS (p ++ [.fld i]) s = true →
  pathS (p ++ [.fld i]) s ∧ offS (p ++ [.fld i]) s = offS p s + offL ss i
 | [], s, ss, i, _, hg, hb => by
  simp only [getS, Option.some.injEq] at hg
  subst hg
  simp only [List.nil_append, pathBS] at hb
  cases hi : ss[i]? with
  | none => simp [hi] at hb
  | some f => simp [pathS, offS, hi]
 | .fld j :: p, s, ss, i, hp, hg, hb => by
  cases s <;> try (simp [pathS] at hp; done)
  rename_i fs
  simp only [pathS] at hp
  simp only [getS] at hg
  simp only [List.cons_append, pathBS] at hb
  cases hi : fs[j]? with
  | none => simp [hi] at hp
  | some f =>
   simp only [hi] at hp hb
   simp only [hi, Option.bind_some] at hg
   obtain ⟨q1, q2⟩ := getS_fld hp hg hb
   simp only [List.cons_append, pathS, offS, hi]
   exact ⟨q1, by omega⟩
 | .idx j :: p, s, ss, i, hp, hg, hb => by
  cases s <;> try (simp [pathS] at hp; done)
  rename_i n e xs
  obtain ⟨q1, q2⟩ := getT_fld (t := .arr n e) (p := .idx j :: p) (x := xs) (by simpa [pathT, pathS] using hp) (by simpa [getT, getS] using hg) (by simpa [pathBT, pathBS] using hb)
  exact ⟨by simpa [pathT, pathS] using q1, by simpa [offT, offS] using q2⟩
theorem getS_idx : ∀ {p : List Step} {s : S} {m : Nat} {e : Ty} {ys : List e.den} {n : Int}, pathS p s → getS p s = some (.arr m e ys) → 0 ≤ n → n < m →
  pathS (p ++ [.idx n]) s ∧ offS (p ++ [.idx n]) s = offS p s + n.toNat * e.size
 | [], s, m, e, ys, n, _, hg, h0, h1 => by
  simp only [getS, Option.some.injEq] at hg
  subst hg
  simp only [List.nil_append, pathS, offS, offT, pathT]
  exact ⟨⟨h0, by omega, trivial⟩, by omega⟩
 | .fld j :: p, s, m, e, ys, n, hp, hg, h0, h1 => by
  cases s <;> try (simp [pathS] at hp; done)
  rename_i fs
  simp only [pathS] at hp
  simp only [getS] at hg
  cases hi : fs[j]? with
  | none => simp [hi] at hp
  | some f =>
   simp only [hi] at hp
   simp only [hi, Option.bind_some] at hg
   obtain ⟨q1, q2⟩ := getS_idx hp hg h0 h1
   simp only [List.cons_append, pathS, offS, hi]
   exact ⟨q1, by omega⟩
 | .idx j :: p, s, m, e, ys, n, hp, hg, h0, h1 => by
  cases s <;> try (simp [pathS] at hp; done)
  rename_i k u xs
  obtain ⟨q1, q2⟩ := getT_idx (t := .arr k u) (p := .idx j :: p) (x := xs) (by simpa [pathT, pathS] using hp) (by simpa [getT, getS] using hg) h0 h1
  exact ⟨by simpa [pathT, pathS] using q1, by simpa [offT, offS] using q2⟩
theorem getE_fld {ent : Ent} {p : List Step} {ss : List S} {i : Nat} (hp : pathE ent p) (hg : getE ent p = some (.st ss)) (hb : pathBE ent (p ++ [.fld i]) = true) :
  pathE ent (p ++ [.fld i]) ∧ offE ent (p ++ [.fld i]) = offE ent p + offL ss i := by
 cases ent with
 | box s fz => exact getS_fld hp hg hb
 | map => simp [pathE] at hp
 | buf e xs fz =>
  cases p with
  | nil => simp [pathE] at hp
  | cons s p =>
   cases s with
   | fld j => simp [pathE] at hp
   | idx j =>
    simp only [pathE] at hp
    simp only [getE] at hg
    obtain ⟨q1, q2⟩ := getT_fld hp.2.2 hg (by simpa [pathBE] using hb)
    simp only [List.cons_append, pathE, offE, q2]
    exact ⟨⟨hp.1, hp.2.1, q1⟩, by omega⟩
theorem getE_idx {ent : Ent} {p : List Step} {m : Nat} {e : Ty} {ys : List e.den} {n : Int} (hp : pathE ent p) (hg : getE ent p = some (.arr m e ys)) (h0 : 0 ≤ n) (h1 : n < m) :
  pathE ent (p ++ [.idx n]) ∧ offE ent (p ++ [.idx n]) = offE ent p + n.toNat * e.size := by
 cases ent with
 | box s fz => exact getS_idx hp hg h0 h1
 | map => simp [pathE] at hp
 | buf u xs fz =>
  cases p with
  | nil => simp [pathE] at hp
  | cons s p =>
   cases s with
   | fld j => simp [pathE] at hp
   | idx j =>
    simp only [pathE] at hp
    simp only [getE] at hg
    obtain ⟨q1, q2⟩ := getT_idx hp.2.2 hg h0 h1
    simp only [List.cons_append, pathE, offE, q2]
    exact ⟨⟨hp.1, hp.2.1, q1⟩, by omega⟩
theorem offF_end : ∀ {t : Ty}, t.chain = true → t.offF t.nfld = t.size
 | .pair a b, h => by
  simp only [Ty.nfld, Ty.offF, Ty.size]
  rw [offF_end (t := b) h]
 | .unit, _ => rfl
 | .int _, h | .nw _, h | .bool, h | .str, h | .slice _, h | .arr _ _, h | .rose _, h | .err, h => by simp [Ty.chain] at h
theorem denFld_rel {w : World} {ok : Ty → Nat → Prop} : ∀ {t : Ty} {x : t.den} {i : Nat} {s : S} {cs : List Value}, Rt w ok t cs x → denFld t x i = some s →
  ∃ (u : Ty) (y : u.den) (ds : List Value), s = .iref u y ∧ Sub cs (t.offF i) ds ∧ Rt w ok u ds y
 | .pair a b, x, 0, s, cs, h, hd => by
  simp only [denFld, Option.some.injEq] at hd
  obtain ⟨c1, c2, rfl, h1, h2⟩ := h
  exact ⟨a, x.1, c1, hd.symm, by simp only [Ty.offF]; exact Sub.left c1 c2, h1⟩
 | .pair a b, x, i + 1, s, cs, h, hd => by
  simp only [denFld] at hd
  obtain ⟨c1, c2, rfl, h1, h2⟩ := h
  obtain ⟨u, y, ds, q1, q2, q3⟩ := denFld_rel h2 hd
  refine ⟨u, y, ds, q1, ?_, q3⟩
  simp only [Ty.offF]
  rw [← h1.length]
  exact (Sub.right c1 c2).trans q2
 | .rose a, x, i, s, cs, h, hd => by
  simp only [denFld] at hd
  obtain ⟨c1, c2, rfl, h1, h2⟩ := rt_rose.1 h
  simp only [Ty.offF]
  split at hd
  ·obtain ⟨u, y, ds, q1, q2, q3⟩ := denFld_rel h1 hd
   refine ⟨u, y, ds, q1, ?_, q3⟩
   have := (Sub.left c1 c2).trans q2
   rwa [Nat.zero_add] at this
  ·split at hd <;> try contradiction
   rename_i hc
   simp only [Bool.and_eq_true, decide_eq_true_eq] at hc
   simp only [Option.some.injEq] at hd
   refine ⟨.slice (.rose a), x.kids, c2, hd.symm, ?_, h2⟩
   rw [hc.1, offF_end hc.2, ← h1.length]
   exact Sub.right c1 c2
 | .int _, x, i, s, cs, h, hd | .nw _, x, i, s, cs, h, hd | .bool, x, i, s, cs, h, hd | .str, x, i, s, cs, h, hd | .slice _, x, i, s, cs, h, hd | .unit, x, i, s, cs, h, hd | .err, x, i, s, cs, h, hd => by simp [denFld] at hd
 | .arr _ _, x, i, s, cs, h, hd => by simp [denFld] at hd
theorem sub_eq {cs ds : List Value} {n : Nat} (h : Sub cs n ds) : (cs.drop n).take ds.length = ds := by
 apply List.ext_getElem?
 intro j
 by_cases hj : j < ds.length
 ·rw [List.getElem?_take, if_pos hj, List.getElem?_drop, h j ds[j] (List.getElem?_eq_getElem hj), List.getElem?_eq_getElem hj]
 ·rw [List.getElem?_take, if_neg hj, List.getElem?_eq_none (by omega)]
theorem run_part {E : Env} {tb : Tbl} {w : World} {P : Program} {t : TypeId} {s : S} {cs : Array Value} {ds : List Value} {off : Nat} (hsub : Sub cs.toList off ds) (hr : Rel E tb w s ds)
  (hs : cellsT P t = some s.size) (ha : s.isAgg = isAggT P t) :
  ∃ v, (part t cs off).run P w = .ok v w ∧ RelV E tb w s v := by
 have hlen := Rel.length hr
 unfold part
 cases hag : s.isAgg with
 | true =>
  refine ⟨.agg ds.toArray, ?_, by rw [RelV, if_pos hag]; exact ⟨_, rfl, by simpa using hr⟩⟩
  simp only [Sem.run_bind, run_isAggT hs, ← ha, hag, Result.andThen_ok, if_true, run_sizeT hs, Sem.run_pure]
  congr 2
  apply Array.ext'
  have := sub_eq hsub
  rw [hlen] at this
  simp only [Array.toList_extract, List.extract_eq_take_drop]
  rw [Nat.add_sub_cancel_left]
  exact this
 | false =>
  have h1 : s.size = 1 := by cases s <;> first | rfl | simp [S.isAgg] at hag
  obtain ⟨v, rfl⟩ := List.length_eq_one_iff.1 (hlen.trans h1)
  refine ⟨v, ?_, by rw [relV_scalar hag]; exact hr⟩
  have h0 := hsub 0 v rfl
  rw [Nat.add_zero] at h0
  simp only [Sem.run_bind, run_isAggT hs, ← ha, hag, Result.andThen_ok, Bool.false_eq_true, if_false]
  rw [← Array.getElem?_toList, h0]
  rfl
section
variable {E : Env} {w0 : World} {own0 : Nat → Bool → Prop} {st : St} {D : List Nat} {a : Act} {w : World} {C : Ctx} {o : Oper} {i : Nat} {r : OpR}
theorem RelVL.get {tb : Tbl} : ∀ {l : List S} {vs : List Value}, RelVL E tb w l vs → ∀ {j : Nat} {s : S}, l[j]? = some s → ∃ v, vs[j]? = some v ∧ RelV E tb w s v
 | [], vs, _, j, s, hj => by simp at hj
 | f :: r, vs, h, j, s, hj => by
  obtain ⟨v, q, rfl, h1, h2⟩ := h
  cases j with
  | zero => simp at hj; subst hj; exact ⟨v, rfl, h1⟩
  | succ j => exact RelVL.get h2 (by simpa using hj)
theorem opS_extract {x : Operand} {n : Nat} (hR : RelSt E w0 own0 st D a.tmps w) (ho : o.op = .extract x n) (h : opS C o st.ep i (evalS st.sl) st.tb = some r) :
  OpGood C.P E w0 own0 st D i o r.v r.ef a w := by
 have hd := opS_lt h
 have hx := hR.eval x
 have hk := hR.evalKeys x
 unfold opS at h
 rw [ho] at h
 simp [hd] at h
 cases hs : evalS st.sl x <;> rw [hs] at h hx hk <;> simp at h
 rename_i fs
 cases hj : fs[n]? with
 | none => simp [hj] at h
 | some s =>
  simp [hj, ok] at h; subst h
  rw [relV_scalar rfl] at hx
  simp only [Rel] at hx
  obtain ⟨vs, hv, hx⟩ := hx
  have hv := (List.cons.inj hv).1
  obtain ⟨v, hv2, hr⟩ := RelVL.get hx hj
  refine OpGood.value hR (u := v) ?_ hr (fun k hk' => hk k (by simp only [keysOf]; exact keysL_get hj k hk'))
  unfold execOp; rw [ho]
  simp [Instr.extract, hv, hv2]
theorem opS_field {t : TypeId} {x : Operand} {n : Nat} (hR : RelSt E w0 own0 st D a.tmps w) (ho : o.op = .field t x n) (h : opS C o st.ep i (evalS st.sl) st.tb = some r) :
  OpGood C.P E w0 own0 st D i o r.v r.ef a w := by
 have hd := opS_lt h
 have hx := hR.eval x
 have hk := hR.evalKeys x
 unfold opS at h
 rw [ho] at h
 simp only [hd, decide_true, Bool.not_true, Bool.false_eq_true, if_false] at h
 split at h <;> try contradiction
 rename_i fs ss hu hs
 rw [hs] at hx hk
 split at h <;> try contradiction
 rename_i f s hf hss
 split at h <;> try contradiction
 rename_i hc
 simp only [Bool.and_eq_true, decide_eq_true_eq, beq_iff_eq] at hc
 simp [ok] at h; subst h
 simp only [RelV, S.isAgg, if_true, Rel] at hx
 obtain ⟨cs, hv, hx⟩ := hx
 obtain ⟨ds, q1, q2⟩ := RelL.get hx hss
 obtain ⟨v, hv2, hr⟩ := run_part q1 q2 hc.1.2 hc.2
 refine OpGood.value hR (u := v) ?_ hr (fun k hk' => hk k (by simp only [keysOf]; exact keysL_get hss k hk'))
 unfold execOp; rw [ho]
 simp only [Instr.field, Sem.run_bind, run_underlying hu, Result.andThen_ok, hf, hv, asAgg, Sem.run_pure, hc.1.1, hv2]
theorem bytesL_get (s : ByteArray) (n : Nat) (h : n < s.size) : (bytesL s).getD n 0 = ((s.data[n]'h).toNat : Int) := by
 have hl : n < s.data.toList.length := by simpa using h
 simp [bytesL, List.getD_eq_getElem?_getD, List.getElem?_map, List.getElem?_eq_getElem hl]
theorem opS_index {t : TypeId} {x y : Operand} (hR : RelSt E w0 own0 st D a.tmps w) (ho : o.op = .index t x y) (h : opS C o st.ep i (evalS st.sl) st.tb = some r) (hg : ∀ g ∈ r.g, g = true) :
  OpGood C.P E w0 own0 st D i o r.v r.ef a w := by
 have hd := opS_lt h
 have hx := hR.eval x
 have hk := hR.evalKeys x
 have hy := hR.eval y
 unfold opS at h
 rw [ho] at h
 simp only [hd, decide_true, Bool.not_true, Bool.false_eq_true, if_false] at h
 split at h <;> try contradiction
 rename_i k n hn
 rw [hn] at hy
 obtain ⟨hyv, _⟩ := relV_int.1 hy
 split at h <;> try contradiction
 ·rename_i len et m e xs hu hs
  rw [hs] at hx
  split at h <;> try contradiction
  rename_i hc
  simp only [Bool.and_eq_true, decide_eq_true_eq, beq_iff_eq] at hc
  obtain ⟨⟨rfl, hc1⟩, hc2⟩ := hc
  simp only [Option.some.injEq] at h; subst h
  simp only [List.mem_cons, List.not_mem_nil, or_false, forall_eq_or_imp, decide_eq_true_eq, forall_eq] at hg
  simp only [RelV, S.isAgg, if_true, Rel] at hx
  obtain ⟨cs, hv, hx⟩ := hx
  have hx' := hx
  obtain ⟨hl, css, hcs, hn2, hel⟩ := hx
  have hi : n.toNat < xs.length := by omega
  obtain ⟨ecs, he, hr⟩ := hel n.toNat hi
  have hm : ∀ c ∈ css, c.length = e.size := by
   intro c hcm
   obtain ⟨j, hj, rfl⟩ := List.getElem_of_mem hcm
   obtain ⟨q, hq, hqr⟩ := hel j (by omega)
   rw [List.getElem?_eq_getElem hj] at hq
   cases hq
   exact hqr.length
  have hsub : Sub cs.toList (n.toNat * e.size) ecs := by rw [hcs]; exact Sub.flatten hm he
  have hsz : (lift e (getA e xs n)).isAgg = (lift e e.zero).isAgg := by cases e <;> rfl
  obtain ⟨v, hv2, hr2⟩ := run_part (E := E) (tb := st.tb) (t := et) (s := lift e (getA e xs n)) hsub (by rw [getA_eq hi]; exact Rt.lift hr) (by rw [lift_size]; exact hc1) (by rw [hsz]; exact hc2)
  refine OpGood.value hR (u := v) ?_ hr2 (by rw [lift_keys]; simp)
  unfold execOp; rw [ho]
  simp only [Instr.index, Sem.run_bind, run_underlying hu, Result.andThen_ok, hv, hyv, asIntOf, Sem.run_pure, hg, and_self, if_true, run_sizeT hc1, hv2]
 ·rename_i s hu hs
  rw [hs] at hx
  simp only [Option.some.injEq] at h; subst h
  simp only [List.mem_cons, List.not_mem_nil, or_false, forall_eq_or_imp, decide_eq_true_eq, forall_eq] at hg
  obtain ⟨bs, hv, rfl, _⟩ := relV_str.1 hx
  have hlt : n.toNat < bs.size := by have := hg.2; rw [bytesL_length] at this; omega
  refine OpGood.value hR (u := .int .u8 ((bytesL bs).getD n.toNat 0)) ?_ (relV_int.2 ⟨rfl, ?_⟩) (by simp [keysOf])
  ·unfold execOp; rw [ho]
   simp only [Instr.index, Sem.run_bind, run_underlying hu, Result.andThen_ok, hv, hyv, asIntOf, Sem.run_pure, hg.1, if_true]
   rw [bytesL_get bs _ hlt]
   have : bs[n.toNat]? = some bs[n.toNat] := by simp [getElem?_pos, hlt]
   rw [this]
   rfl
  ·rw [bytesL_get bs _ hlt, inK_iff]
   have := (bs.data[n.toNat]'hlt).toNat_lt
   simp [IntKind.min, IntKind.max, IntKind.signed, IntKind.bits]; omega
theorem RelM.length {ok : Ty → Nat → Prop} {kt vt : Ty} : ∀ {es : List MapEntry} {m : List (kt.den × vt.den)}, RelM w ok kt vt es m → es.length = m.length
 | [], m, h => by cases h; rfl
 | e :: r, m, h => by obtain ⟨a, b, q, rfl, _, _, h⟩ := h; simp [RelM.length h]
theorem inK_len {n : Nat} (h : n ≤ MAXL) : inK .i64 (n : Int) = true := by
 unfold MAXL at h; rw [inK_iff]; simp [IntKind.min, IntKind.max, IntKind.signed, IntKind.bits]; omega
theorem run_len {P : Program} {tys : Array TypeId} {ty : TypeId} {v : Value} {n : Int} {d : TypeDesc} (h0 : (tys[0]?).bind P.underlying = some d)
  (hm : (match d, v with | .string, .string s => n = s.size | .array m _, _ => n = m | .slice _, .slice _ m _ => n = m | .map _ _, .map none => n = 0 | .map _ _, .map (some b) => ∃ es c, w.heap[b]? = some (.map es c) ∧ n = es.size | _, _ => False)) :
  (Builtin.len_ tys ty #[v]).run P w = .ok (.int .i64 n) w := by
 cases ht : tys[0]? with
 | none => simp [ht] at h0
 | some t =>
  simp only [ht, Option.bind_some] at h0
  unfold Builtin.len_
  simp only [ht, List.getElem?_toArray, List.getElem?_cons_zero, Sem.run_bind, run_underlying h0, Result.andThen_ok]
  split at hm <;> try contradiction
  all_goals try (subst hm; simp [goInt])
  obtain ⟨es, c, h1, h2⟩ := hm
  subst h2
  simp [getObj, Sem.run, h1, goInt]
theorem opS_len {tys : Array TypeId} {args : Array Operand} (hR : RelSt E w0 own0 st D a.tmps w) (ho : o.op = .call { callee := .builtin .len, args := args, argTypes := tys })
  (h : opS C o st.ep i (evalS st.sl) st.tb = some r) (hg : ∀ g ∈ r.g, g = true) : OpGood C.P E w0 own0 st D i o r.v r.ef a w := by
 have hd := opS_lt h
 unfold opS at h
 rw [ho] at h
 simp only [hd, decide_true, Bool.not_true, Bool.false_eq_true, if_false] at h
 obtain ⟨l⟩ := args
 have hone : ∃ x, l = [x] := by
  cases l with
  | nil => simp [builtinS] at h
  | cons x q =>
   cases q with
   | nil => exact ⟨x, rfl⟩
   | cons y q => simp [builtinS] at h
 obtain ⟨x, rfl⟩ := hone
 have hx := hR.eval x
 simp only [List.map_cons, List.map_nil] at h
 have hrun : ∀ (n : Int), (Builtin.len_ tys o.type #[a.eval x]).run C.P w = .ok (.int .i64 n) w → (execOp a.eval o).run C.P w = .ok (.value (.int .i64 n)) w := by
  intro n hn
  unfold execOp; rw [ho]
  simp [resolve, invoke, builtin, hn]
 have fin : ∀ (n : Int), (Builtin.len_ tys o.type #[a.eval x]).run C.P w = .ok (.int .i64 n) w → inK .i64 n = true → OpGood C.P E w0 own0 st D i o (.int .i64 n) [] a w :=
  fun n h1 h2 => OpGood.value hR (hrun n h1) (relV_int.2 ⟨rfl, h2⟩) (by simp [keysOf])
 generalize hs : evalS st.sl x = s at h hx
 have hz : inK .i64 (0 : Int) = true := by decide
 cases s <;> try (simp [builtinS, lenS] at h; done)
 case str s =>
  obtain ⟨bs, hv, rfl, hl⟩ := relV_str.1 hx
  simp only [builtinS, lenS, Option.bind_some, ok] at h
  split at h <;> try contradiction
  rename_i hc
  simp only [Option.some.injEq] at h; subst h
  unfold lenOk at hc
  split at hc <;> try contradiction
  rename_i q _ h0 _
  exact fin _ (run_len h0 (by rw [hv]; simp [bytesL_length])) (inK_len hl)
 case sl e xs =>
  rw [relV_scalar rfl] at hx
  obtain ⟨b, cap, hv, h1, h2, _⟩ := hx
  have hv := (List.cons.inj hv).1
  simp only [builtinS, lenS, Option.bind_some, ok] at h
  split at h <;> try contradiction
  rename_i hc
  simp only [Option.some.injEq] at h; subst h
  unfold lenOk at hc
  split at hc <;> try contradiction
  rename_i q h0 _
  exact fin _ (run_len h0 (by rw [hv])) (inK_len h2)
 case nilsl =>
  rw [relV_scalar rfl] at hx
  obtain ⟨b, hv⟩ := hx
  have hv := (List.cons.inj hv).1
  simp only [builtinS, lenS, Option.bind_some, ok] at h
  split at h <;> try contradiction
  rename_i hc
  simp only [Option.some.injEq] at h; subst h
  unfold lenOk at hc
  split at hc <;> try contradiction
  rename_i h0 _
  exact fin _ (run_len h0 (by rw [hv]; rfl)) hz
 case nilmp =>
  rw [relV_scalar rfl] at hx
  simp only [Rel] at hx
  have hv := (List.cons.inj hx).1
  simp only [builtinS, lenS, Option.bind_some, ok] at h
  split at h <;> try contradiction
  rename_i hc
  simp only [Option.some.injEq] at h; subst h
  unfold lenOk at hc
  split at hc <;> try contradiction
  rename_i h0 _
  exact fin _ (run_len h0 (by rw [hv])) hz
 case arr m e xs =>
  simp only [builtinS, lenS, Option.bind_some, ok] at h
  split at h <;> try contradiction
  rename_i hc
  simp only [Option.some.injEq] at h; subst h
  unfold lenOk at hc
  split at hc <;> try contradiction
  rename_i q _ _ _ h0 he
  cases he
  simp only [Bool.and_eq_true, decide_eq_true_eq] at hc
  obtain ⟨rfl, hlt⟩ := hc
  exact fin _ (run_len h0 rfl) (inK_len (by unfold MAXL; omega))
 case own e k =>
  rw [relV_scalar rfl] at hx
  simp only [Rel] at hx
  simp only [builtinS, lenS] at h
  split at h <;> try contradiction
  rename_i hc
  cases hk : st.tb k with
  | none => simp [hk] at h
  | some ent =>
   cases ent <;> simp [hk, ok] at h
   rename_i e' xs fz
   subst h
   rw [hk] at hx
   obtain ⟨b, cap, hv, _⟩ := hx
   have hv := (List.cons.inj hv).1
   unfold lenOk at hc
   split at hc <;> try contradiction
   rename_i h0 _
   have hl := (hR.ent k _ hk).1
   exact fin _ (run_len h0 (by rw [hv])) (inK_len hl)
 case twn e k n =>
  rw [relV_scalar rfl] at hx
  simp only [Rel] at hx
  simp only [builtinS, lenS] at h
  split at h <;> try contradiction
  rename_i hc
  cases hk : st.tb k with
  | none => simp [hk] at h
  | some ent =>
   cases ent <;> simp [hk, ok] at h
   rename_i e' xs fz
   subst h
   rw [hk] at hx
   obtain ⟨b, o, hκ, n0, n1, hv⟩ := hx
   have hv := (List.cons.inj hv).1
   unfold lenOk at hc
   split at hc <;> try contradiction
   rename_i h0 _
   have hl := (hR.ent k _ hk).1
   have hn : n = ((n.toNat : Nat) : Int) := by omega
   rw [hn]
   exact fin _ (run_len h0 (by rw [hv])) (inK_len (by omega))
 case mp k =>
  rw [relV_scalar rfl] at hx
  simp only [Rel] at hx
  simp only [builtinS] at h
  split at h <;> try contradiction
  rename_i hc
  cases hk : st.tb k with
  | none => simp [hk] at h
  | some ent =>
   cases ent <;> simp [hk] at h
   rename_i kt vt m fz
   subst h
   rw [hk] at hx
   obtain ⟨b, hκ, hv⟩ := hx
   have hv := (List.cons.inj hv).1
   obtain ⟨b', es, c, hκ', _, hb, hm⟩ := hR.ent k _ hk
   rw [hκ] at hκ'; cases hκ'
   have hl := RelM.length hm
   simp at hg
   unfold lenOk at hc
   split at hc <;> try contradiction
   rename_i h0 _
   refine fin _ (run_len h0 (by rw [hv]; exact ⟨es, c, hb, by rw [← hl]; simp⟩)) (inK_len ?_)
   unfold SMALL at hg; unfold MAXL; omega
theorem opS_cap {tys : Array TypeId} {args : Array Operand} (hR : RelSt E w0 own0 st D a.tmps w) (ho : o.op = .call { callee := .builtin .cap, args := args, argTypes := tys })
  (h : opS C o st.ep i (evalS st.sl) st.tb = some r) : OpGood C.P E w0 own0 st D i o r.v r.ef a w := by
 have hd := opS_lt h
 unfold opS at h
 rw [ho] at h
 simp only [hd, decide_true, Bool.not_true, Bool.false_eq_true, if_false] at h
 obtain ⟨l⟩ := args
 have hone : ∃ x, l = [x] := by
  cases l with
  | nil => simp [builtinS] at h
  | cons x q =>
   cases q with
   | nil => exact ⟨x, rfl⟩
   | cons y q => simp [builtinS] at h
 obtain ⟨x, rfl⟩ := hone
 have hx := hR.eval x
 simp only [List.map_cons, List.map_nil] at h
 generalize hs : evalS st.sl x = s at h hx
 cases s <;> try (simp [builtinS] at h; done)
 case twn e k n =>
  rw [relV_scalar rfl] at hx
  simp only [Rel] at hx
  simp only [builtinS] at h
  split at h <;> try contradiction
  rename_i hc
  cases hk : st.tb k with
  | none => simp [hk] at h
  | some ent =>
   cases ent <;> simp [hk, ok] at h
   rename_i e' xs fz
   subst h
   rw [hk] at hx
   obtain ⟨b, o', hκ, n0, n1, hv⟩ := hx
   have hv := (List.cons.inj hv).1
   unfold lenOk at hc
   split at hc <;> try contradiction
   rename_i h0 _
   have hl := (hR.ent k _ hk).1
   refine OpGood.value hR (u := .int .i64 xs.length) ?_ (relV_int.2 ⟨rfl, inK_len hl⟩) (by simp [keysOf])
   cases ht : tys[0]? with
   | none => simp [ht] at h0
   | some t =>
    simp only [ht, Option.bind_some] at h0
    unfold execOp; rw [ho]
    simp [resolve, invoke, builtin, Builtin.cap_, ht, run_underlying h0, hv, goInt]
theorem inK_mx {k : IntKind} {p q : Int} (hp : inK k p = true) (hq : inK k q = true) : inK k (mx p q) = true := by unfold mx; split <;> assumption
theorem inK_mn {k : IntKind} {p q : Int} (hp : inK k p = true) (hq : inK k q = true) : inK k (mn p q) = true := by unfold mn; split <;> assumption
theorem opS_maxmin {mxb : Bool} {tys : Array TypeId} {args : Array Operand} (hR : RelSt E w0 own0 st D a.tmps w)
  (ho : o.op = .call { callee := .builtin (if mxb then .max else .min), args := args, argTypes := tys })
  (h : opS C o st.ep i (evalS st.sl) st.tb = some r) : OpGood C.P E w0 own0 st D i o r.v r.ef a w := by
 have hd := opS_lt h
 unfold opS at h
 rw [ho] at h
 simp only [hd, decide_true, Bool.not_true, Bool.false_eq_true, if_false] at h
 obtain ⟨l⟩ := args
 have hone : ∃ x y, l = [x, y] := by
  cases l with
  | nil => cases mxb <;> simp [builtinS] at h
  | cons x q =>
   cases q with
   | nil => cases mxb <;> simp [builtinS] at h
   | cons y q =>
    cases q with
    | nil => exact ⟨x, y, rfl⟩
    | cons z q => cases mxb <;> simp [builtinS] at h
 obtain ⟨x, y, rfl⟩ := hone
 have hx := hR.eval x
 have hy := hR.eval y
 simp only [List.map_cons, List.map_nil] at h
 generalize evalS st.sl x = s at h hx
 generalize evalS st.sl y = s' at h hy
 cases s <;> try (cases mxb <;> simp [builtinS] at h; done)
 cases s' <;> try (cases mxb <;> simp [builtinS] at h; done)
 rename_i k p k' q
 obtain ⟨hv1, hp⟩ := relV_int.1 hx
 obtain ⟨hv2, hq⟩ := relV_int.1 hy
 cases mxb <;> simp only [builtinS, Bool.false_eq_true, if_false, if_true] at h
 all_goals
  split at h <;> try contradiction
  rename_i hk
  subst hk
  simp only [ok, Option.some.injEq] at h; subst h
 ·refine OpGood.value hR (u := .int k (mn p q)) ?_ (relV_int.2 ⟨rfl, inK_mn hp hq⟩) (by simp [keysOf])
  unfold execOp; rw [ho]
  simp [resolve, invoke, builtin, hv1, hv2, Builtin.min_, Builtin.min2, mn]
 ·refine OpGood.value hR (u := .int k (mx p q)) ?_ (relV_int.2 ⟨rfl, inK_mx hp hq⟩) (by simp [keysOf])
  unfold execOp; rw [ho]
  simp [resolve, invoke, builtin, hv1, hv2, Builtin.max_, Builtin.max2, mx]
end
end Go.Ab
