/- Composite values; bytes of a text; new maps. -/
import Derived.Test.YtlhinijgdffcdaaGreatDoorOp7
namespace Go.Ab
open Go
set_option linter.unusedVariables false
set_option linter.unusedSimpArgs false
theorem rt_arr_iff {w : World} {ok : Ty → Nat → Prop} {e : Ty} {n : Nat} {cs : List Value} {xs : List e.den} :
  Rt w ok (.arr n e) cs xs ↔ xs.length = n ∧ cs.length = n * e.size ∧ ∀ i (h : i < xs.length), Rt w ok e ((cs.drop (i * e.size)).take e.size) xs[i] := by
 constructor
 ·intro h
  refine ⟨h.1, h.length, fun i hi => ?_⟩
  obtain ⟨ecs, q1, q2⟩ := h.pieces hi
  have := sub_eq q1
  rw [q2.length] at this
  rw [this]; exact q2
 ·rintro ⟨h1, h2, h3⟩
  refine ⟨h1, _, (flatten_pieces cs e.size n h2).symm, by simp, fun i hi => ⟨_, ?_, h3 i hi⟩⟩
  simp [List.getElem?_eq_getElem, (by omega : i < n)]
theorem Rt.splice {w : World} {ok : Ty → Nat → Prop} {e : Ty} {n : Nat} {cs ds cs' : List Value} {xs : List e.den} {i : Nat} {y : e.den} (h : Rt w ok (.arr n e) cs xs) (hd : Rt w ok e ds y) (hi : i < n)
  (hl : cs'.length = cs.length) (hc : ∀ p, cs'[p]? = if i * e.size ≤ p ∧ p < i * e.size + e.size then ds[p - i * e.size]? else cs[p]?) : Rt w ok (.arr n e) cs' (xs.set i y) := by
 rw [rt_arr_iff] at h ⊢
 obtain ⟨h1, h2, h3⟩ := h
 refine ⟨by simpa using h1, by omega, fun j hj => ?_⟩
 have hj' : j < xs.length := by simpa using hj
 have hdl := hd.length
 have hpiece : (cs'.drop (j * e.size)).take e.size = if i = j then ds else (cs.drop (j * e.size)).take e.size := by
  apply List.ext_getElem?
  intro p
  rw [List.getElem?_take]
  by_cases hp : p < e.size
  ·rw [if_pos hp, List.getElem?_drop, hc]
   by_cases hij : i = j
   ·subst hij
    rw [if_pos ⟨by omega, by omega⟩, if_pos rfl]
    congr 1; omega
   ·rw [if_neg hij, if_neg, List.getElem?_take, if_pos hp, List.getElem?_drop]
    rintro ⟨q1, q2⟩
    rcases Nat.lt_or_gt_of_ne hij with hlt | hgt
    ·have : (i + 1) * e.size ≤ j * e.size := Nat.mul_le_mul_right _ hlt
     rw [Nat.succ_mul] at this; omega
    ·have : (j + 1) * e.size ≤ i * e.size := Nat.mul_le_mul_right _ hgt
     rw [Nat.succ_mul] at this; omega
  ·rw [if_neg hp]
   split
   ·rw [List.getElem?_eq_none (by omega)]
   ·rw [List.getElem?_take, if_neg hp]
 rw [hpiece]
 by_cases hij : i = j
 ·subst hij; simp only [if_pos, List.getElem_set_self]; exact hd
 ·rw [if_neg hij, List.getElem_set_ne hij]; exact h3 j hj'
theorem fold_set_get (off : Nat) : ∀ (l : List Value) (k : Nat) (cs : Array Value), off + k + l.length ≤ cs.size →
  ((l.zipIdx k).foldl (fun cs (p : Value × Nat) => cs.setIfInBounds (off + p.2) p.1) cs).size = cs.size ∧
  ∀ p, ((l.zipIdx k).foldl (fun cs (p : Value × Nat) => cs.setIfInBounds (off + p.2) p.1) cs)[p]? = if off + k ≤ p ∧ p < off + k + l.length then l[p - (off + k)]? else cs[p]?
 | [], k, cs, h => ⟨rfl, fun p => by simp; intro h1 h2; omega⟩
 | c :: r, k, cs, h => by
  simp only [List.length_cons] at h
  obtain ⟨h1, h2⟩ := fold_set_get off r (k + 1) (cs.setIfInBounds (off + k) c) (by simp; omega)
  simp only [List.zipIdx_cons, List.foldl_cons]
  refine ⟨by rw [h1]; simp, fun p => ?_⟩
  rw [h2, List.length_cons]
  by_cases hp : p = off + k
  ·subst hp
   rw [if_neg (by omega), if_pos (by omega), Array.getElem?_setIfInBounds]
   simp; omega
  ·have hset : (cs.setIfInBounds (off + k) c)[p]? = cs[p]? := by rw [Array.getElem?_setIfInBounds, if_neg (fun h => hp h.symm)]
   rw [hset]
   by_cases hq : off + (k + 1) ≤ p ∧ p < off + (k + 1) + r.length
   ·rw [if_pos hq, if_pos (by omega)]
    obtain ⟨m, hm⟩ : ∃ m, p - (off + k) = m + 1 := ⟨p - (off + k) - 1, by omega⟩
    rw [hm, List.getElem?_cons_succ]; congr 1; omega
   ·rw [if_neg hq, if_neg (by omega)]
theorem fill_step (off : Nat) (v : Value) (cs : Array Value) (h : off + v.cells.size ≤ cs.size) :
  (v.cells.zipIdx.foldl (fun cs (c, j) => cs.setIfInBounds (off + j) c) cs).size = cs.size ∧
  ∀ p, (v.cells.zipIdx.foldl (fun cs (c, j) => cs.setIfInBounds (off + j) c) cs)[p]? = if off ≤ p ∧ p < off + v.cells.size then v.cells[p - off]? else cs[p]? := by
 have := fold_set_get off v.cells.toList 0 cs (by simpa using h)
 rw [← Array.foldl_toList, Array.toList_zipIdx]
 simpa using this
theorem nw_rows {w w' : World} {ok ok' : Ty → Nat → Prop} : ∀ {e' e : Ty} {xs : List e'.den} {x : List e.den}, nwL e' e xs = some x →
  x.length = xs.length ∧ e'.size = e.size ∧ ∀ i (hi : i < x.length) (hi' : i < xs.length) ecs, Rt w ok e' ecs xs[i] → Rt w' ok' e ecs x[i]
 | .int k, .nw k', xs, x, h => by
  simp only [nwL] at h
  split at h <;> try contradiction
  rename_i hk; subst hk
  simp only [Option.some.injEq] at h; subst h
  exact ⟨rfl, rfl, fun i hi hi' ecs hr => hr⟩
 | .int _, .int _, _, _, h | .int _, .bool, _, _, h | .int _, .str, _, _, h | .int _, .slice _, _, _, h | .int _, .arr _ _, _, _, h | .int _, .unit, _, _, h | .int _, .pair _ _, _, _, h | .int _, .rose _, _, _, h | .int _, .err, _, _, h => by simp [nwL] at h
 | .nw _, _, _, _, h | .bool, _, _, _, h | .str, _, _, _, h | .slice _, _, _, _, h | .arr _ _, _, _, _, h | .unit, _, _, _, h | .pair _ _, _, _, _, h | .rose _, _, _, _, h | .err, _, _, _, h => by simp [nwL] at h
mutual
theorem lower_rt {E : Env} {tb : Tbl} {w w' : World} {ok : Ty → Nat → Prop} (hb : ∀ k e xs fz, tb k = some (.buf e xs fz) → RelE E tb w k (.buf e xs fz))
  (hk : ∀ t b, E.ok tb t b → b < w.heap.size → ok t b ∧ b < w'.heap.size) (hc : ∀ t b, E.ok tb t b → ∀ o v, w.cell? ⟨b, o, none⟩ = some v → w'.cell? ⟨b, o, none⟩ = some v) :
  ∀ {s : S} {t : Ty} {x : t.den} {cs : List Value}, (∀ k ∈ ownKeys s, ∀ e p, tb k = some e → E.κ k = some p → (∀ t, ok t p.1) ∧ p.1 < w'.heap.size ∧ ∀ o v, w.cell? ⟨p.1, o, none⟩ = some v → w'.cell? ⟨p.1, o, none⟩ = some v) →
   Rel E tb w s cs → lower tb s t = some x → Rt w' ok t cs x
 | .int k n, t, x, cs, ho, hr, hl => by
  cases t <;> simp [lower] at hl
  obtain ⟨rfl, rfl⟩ := hl; exact hr
 | .bool b, t, x, cs, ho, hr, hl => by
  cases t <;> simp [lower] at hl
  subst hl; exact hr
 | .str s, t, x, cs, ho, hr, hl => by
  cases t <;> simp [lower] at hl
  subst hl; exact hr
 | .sl e xs, t, x, cs, ho, hr, hl => by
  cases t <;> simp [lower] at hl
  obtain ⟨rfl, rfl⟩ := hl
  exact Rt.mono hk hc (t := .slice e) hr
 | .nilsl, t, x, cs, ho, hr, hl => by
  cases t <;> simp [lower] at hl
  subst hl
  obtain ⟨p, rfl⟩ := hr
  exact ⟨p, 0, rfl, Nat.le_refl _, by simp, .inl rfl⟩
 | .own u k, t, x, cs, ho, hr, hl => by
  cases t <;> simp [lower] at hl
  rename_i e
  split at hl <;> try contradiction
  rename_i e' xs fz htk
  have key : x.length = xs.length ∧ e'.size = e.size ∧ ∀ i (hi : i < x.length) (hi' : i < xs.length) ecs, Rt w (E.ok tb) e' ecs xs[i] → Rt w' ok e ecs x[i] := by
   split at hl
   ·rename_i he; subst he
    simp only [castL, Option.some.injEq] at hl; subst hl
    exact ⟨rfl, rfl, fun i hi hi' ecs h => Rt.mono hk hc h⟩
   ·exact nw_rows hl
  obtain ⟨kl, ksz, kr⟩ := key
  simp only [Rel, htk] at hr
  obtain ⟨p, cap, hcs, h1, h2⟩ := hr
  obtain ⟨h3, h4⟩ := hb k _ _ _ htk
  refine ⟨p, cap, by rw [hcs, kl], by rw [kl]; exact h1, by rw [kl]; exact h3, ?_⟩
  cases hκ : E.κ k with
  | none => rw [hκ] at h4; left; exact List.eq_nil_of_length_eq_zero (by rw [kl, h4]; rfl)
  | some q =>
   obtain ⟨b, o⟩ := q
   rw [hκ] at h2 h4
   obtain ⟨q1, q2, q3⟩ := ho k (by simp [ownKeys]) _ _ htk hκ
   refine .inr ⟨b, o, h2.1, q1 _, q2, fun i hi => ?_⟩
   obtain ⟨ecs, r1, r2⟩ := h4.2.2.2 i (by omega)
   refine ⟨ecs, ?_, kr i hi (by omega) ecs r2⟩
   rw [← ksz]; exact r1.mono q3
 | .twn u k n, t, x, cs, ho, hr, hl => by
  cases t <;> simp [lower] at hl
  rename_i e
  split at hl <;> try contradiction
  rename_i e' xs fz htk
  split at hl <;> try contradiction
  rename_i he; subst he
  simp only [castL, Option.some.injEq] at hl; subst hl
  simp only [Rel, htk] at hr
  obtain ⟨b, o, hκ, n0, ⟨n1, _⟩, hcs⟩ := hr
  obtain ⟨h3, h4⟩ := hb k _ _ _ htk
  rw [hκ] at h4
  obtain ⟨q1, q2, q3⟩ := ho k (by simp [ownKeys]) _ _ htk hκ
  have hlen : (xs.take n.toNat).length = n.toNat := by rw [List.length_take]; omega
  refine ⟨_, xs.length, by rw [hcs, hlen], by rw [hlen]; exact n1, by rw [hlen]; omega, .inr ⟨b, o, rfl, q1 _, q2, fun i hi => ?_⟩⟩
  rw [hlen] at hi
  obtain ⟨ecs, r1, r2⟩ := h4.2.2.2 i (by omega)
  refine ⟨ecs, r1.mono q3, ?_⟩
  rw [List.getElem_take]
  exact Rt.mono hk hc r2
 | .arr n e xs, t, x, cs, ho, hr, hl => by
  cases t <;> simp [lower] at hl
  obtain ⟨rfl, rfl, rfl⟩ := hl
  exact Rt.mono hk hc (t := .arr n e) hr
 | .st fs, t, x, cs, ho, hr, hl => by
  simp only [Rel] at hr
  cases t with
  | rose a =>
   simp only [lower] at hl
   split at hl <;> try contradiction
   rename_i y hy
   simp only [Option.some.injEq] at hl; subst hl
   exact rt_rose.2 (lowerR_rt hb hk hc ho hr hy)
  | _ =>
   simp only [lower] at hl
   exact lowerL_rt hb hk hc ho hr hl
 | .err y, t, x, cs, ho, hr, hl => by
  cases t <;> simp [lower] at hl
  subst hl
  exact Rt.mono hk hc (t := .err) hr
 | .junk, t, x, cs, ho, hr, hl | .ptr .., t, x, cs, ho, hr, hl | .nilp, t, x, cs, ho, hr, hl | .iref .., t, x, cs, ho, hr, hl | .gptr .., t, x, cs, ho, hr, hl
 | .fn .., t, x, cs, ho, hr, hl | .nilfn, t, x, cs, ho, hr, hl | .iface .., t, x, cs, ho, hr, hl | .nili, t, x, cs, ho, hr, hl | .mp _, t, x, cs, ho, hr, hl | .nilmp, t, x, cs, ho, hr, hl | .tup _, t, x, cs, ho, hr, hl => by
  simp [lower] at hl
theorem lowerR_rt {E : Env} {tb : Tbl} {w w' : World} {ok : Ty → Nat → Prop} (hb : ∀ k e xs fz, tb k = some (.buf e xs fz) → RelE E tb w k (.buf e xs fz))
  (hk : ∀ t b, E.ok tb t b → b < w.heap.size → ok t b ∧ b < w'.heap.size) (hc : ∀ t b, E.ok tb t b → ∀ o v, w.cell? ⟨b, o, none⟩ = some v → w'.cell? ⟨b, o, none⟩ = some v) :
  ∀ {l : List S} {t r : Ty} {x : t.den × List r.den} {cs : List Value}, (∀ k ∈ ownKeysL l, ∀ e p, tb k = some e → E.κ k = some p → (∀ t, ok t p.1) ∧ p.1 < w'.heap.size ∧ ∀ o v, w.cell? ⟨p.1, o, none⟩ = some v → w'.cell? ⟨p.1, o, none⟩ = some v) →
   RelL E tb w l cs → lowerR tb l t r = some x → ∃ c1 c2, cs = c1 ++ c2 ∧ Rt w' ok t c1 x.1 ∧ Rt w' ok (.slice r) c2 x.2
 | [], t, r, x, cs, ho, hr, hl => by simp [lowerR] at hl
 | [f], .unit, r, x, cs, ho, hr, hl => by
  simp only [lowerR] at hl
  split at hl <;> try contradiction
  rename_i ks h1
  simp only [Option.some.injEq] at hl; subst hl
  obtain ⟨c1, c2, rfl, r1, r2⟩ := hr
  cases r2
  exact ⟨[], c1, by simp, rfl, lower_rt hb hk hc (t := .slice r) (fun k hk => ho k (by simp [ownKeysL, hk])) r1 h1⟩
 | f :: q, .pair a b, r, x, cs, ho, hr, hl => by
  simp only [lowerR] at hl
  split at hl <;> try contradiction
  rename_i y z h1 h2
  simp only [Option.some.injEq] at hl; subst hl
  obtain ⟨c1, c2, rfl, r1, r2⟩ := hr
  obtain ⟨d1, d2, rfl, g1, g2⟩ := lowerR_rt hb hk hc (fun k hk => ho k (by simp [ownKeysL, hk])) r2 h2
  exact ⟨c1 ++ d1, d2, by simp, ⟨c1, d1, rfl, lower_rt hb hk hc (fun k hk => ho k (by simp [ownKeysL, hk])) r1 h1, g1⟩, g2⟩
 | f :: g :: q, .unit, r, x, cs, ho, hr, hl => by simp [lowerR] at hl
 | f :: q, .int _, r, x, cs, ho, hr, hl | f :: q, .nw _, r, x, cs, ho, hr, hl | f :: q, .bool, r, x, cs, ho, hr, hl | f :: q, .str, r, x, cs, ho, hr, hl | f :: q, .slice _, r, x, cs, ho, hr, hl | f :: q, .arr _ _, r, x, cs, ho, hr, hl | f :: q, .rose _, r, x, cs, ho, hr, hl | f :: q, .err, r, x, cs, ho, hr, hl => by simp [lowerR] at hl
theorem lowerL_rt {E : Env} {tb : Tbl} {w w' : World} {ok : Ty → Nat → Prop} (hb : ∀ k e xs fz, tb k = some (.buf e xs fz) → RelE E tb w k (.buf e xs fz))
  (hk : ∀ t b, E.ok tb t b → b < w.heap.size → ok t b ∧ b < w'.heap.size) (hc : ∀ t b, E.ok tb t b → ∀ o v, w.cell? ⟨b, o, none⟩ = some v → w'.cell? ⟨b, o, none⟩ = some v) :
  ∀ {l : List S} {t : Ty} {x : t.den} {cs : List Value}, (∀ k ∈ ownKeysL l, ∀ e p, tb k = some e → E.κ k = some p → (∀ t, ok t p.1) ∧ p.1 < w'.heap.size ∧ ∀ o v, w.cell? ⟨p.1, o, none⟩ = some v → w'.cell? ⟨p.1, o, none⟩ = some v) →
   RelL E tb w l cs → lowerL tb l t = some x → Rt w' ok t cs x
 | [], t, x, cs, ho, hr, hl => by
  cases t <;> simp [lowerL] at hl
  cases hr; rfl
 | f :: r, t, x, cs, ho, hr, hl => by
  cases t <;> simp [lowerL] at hl
  rename_i a b
  split at hl <;> try contradiction
  rename_i y z h1 h2
  simp only [Option.some.injEq] at hl; subst hl
  obtain ⟨c1, c2, rfl, r1, r2⟩ := hr
  exact ⟨c1, c2, rfl, lower_rt hb hk hc (fun k hk => ho k (by simp [ownKeysL, hk])) r1 h1, lowerL_rt hb hk hc (fun k hk => ho k (by simp [ownKeysL, hk])) r2 h2⟩
end
theorem lower_low {E : Env} {tb : Tbl} {w : World} {ok : Ty → Nat → Prop} (hb : ∀ k e xs fz, tb k = some (.buf e xs fz) → RelE E tb w k (.buf e xs fz)) {u : Ty} {k : Nat} {n : Int} {ys : List Int} {fz : Bool} (htk : tb k = some (.buf (.int .u8) ys fz)) {t : Ty} {x : t.den} {cs : List Value}
  (ho : ∀ p, E.κ k = some p → ok (.int .u8) p.1) (hr : Rel E tb w (.twn u k n) cs) (hl : lower tb (.twn u k n) t = some x) : Rt w ok t cs x := by
 cases t <;> simp [lower] at hl
 rename_i e
 rw [htk] at hl
 simp only at hl
 split at hl <;> try contradiction
 rename_i he; subst he
 simp only [castL, Option.some.injEq] at hl; subst hl
 simp only [Rel, htk] at hr
 obtain ⟨b, o, hκ, n0, ⟨n1, _⟩, hcs⟩ := hr
 obtain ⟨h3, h4⟩ := hb k _ _ _ htk
 rw [hκ] at h4
 have hlen : (ys.take n.toNat).length = n.toNat := by rw [List.length_take]; omega
 refine ⟨_, ys.length, by rw [hcs, hlen], by rw [hlen]; exact n1, by rw [hlen]; omega, .inr ⟨b, o, rfl, ho _ hκ, h4.1, fun i hi => ?_⟩⟩
 rw [hlen] at hi
 obtain ⟨ecs, r1, r2⟩ := h4.2.2.2 i (by omega)
 refine ⟨ecs, r1, ?_⟩
 rw [List.getElem_take]
 exact r2
theorem addParts_rt {E : Env} {tb : Tbl} {w w' : World} {ok : Ty → Nat → Prop} {C : Ctx} {e : Ty} {sl : List S} {a : Act} {P : Program}
  (hb : ∀ k e xs fz, tb k = some (.buf e xs fz) → RelE E tb w k (.buf e xs fz)) (hev : ∀ x, RelV E tb w (evalS sl x) (a.eval x))
  (hk : ∀ t b, E.ok tb t b → b < w.heap.size → ok t b ∧ b < w'.heap.size) (hc : ∀ t b, E.ok tb t b → ∀ o v, w.cell? ⟨b, o, none⟩ = some v → w'.cell? ⟨b, o, none⟩ = some v) {n : Nat} :
  ∀ (ps : List (Nat × Operand)) (xs : List e.den) {ys : List e.den} (cs : Array Value),
   (∀ k ∈ partKeys (evalS sl) ps, ∀ e p, tb k = some e → E.κ k = some p → (∀ t, ok t p.1) ∧ p.1 < w'.heap.size ∧ ∀ o v, w.cell? ⟨p.1, o, none⟩ = some v → w'.cell? ⟨p.1, o, none⟩ = some v) →
   addParts C tb e (evalS sl) ps xs = some ys → Rt w' ok (.arr n e) cs.toList xs →
   ∃ cs', Instr.fill (fun i => some (i * e.size, e.size)) cs (ps.map fun q => (q.1, a.eval q.2)) = some cs' ∧ Rt w' ok (.arr n e) cs'.toList ys
 | [], xs, ys, cs, ho, h, hr => by simp [addParts] at h; subst h; exact ⟨cs, rfl, hr⟩
 | (i, x) :: r, xs, ys, cs, ho, h, hr => by
  simp only [addParts] at h
  split at h <;> try contradiction
  rename_i hi
  split at h <;> try contradiction
  rename_i y hy
  have hl := hr.length
  have hxl : xs.length = n := hr.1
  have hv : Rt w' ok e (a.eval x).cells.toList y := by
   refine lower_rt hb hk hc (fun k hk' => ho k (by simp [partKeys, hk'])) ?_ hy
   have := hev x
   unfold RelV at this
   split at this
   ·obtain ⟨q, h1, h2⟩ := this; rw [h1]; exact h2
   ·rename_i ha
    have hp : plain (evalS sl x) = true := by
     cases hs : evalS sl x <;> rw [hs] at ha hy <;> simp [plain, S.isAgg, lower] at ha hy ⊢
    have h1 := Rel.one hp this (a.eval x) (by simp)
    cases hq : a.eval x <;> rw [hq] at h1 this <;> first | exact this | simp [Value.oneCell'] at h1
  have hvl := hv.length
  have hbound : i * e.size + e.size ≤ cs.size := by
   have : (i + 1) * e.size ≤ n * e.size := Nat.mul_le_mul_right _ (by omega)
   rw [Nat.succ_mul] at this
   have hl2 : cs.toList.length = n * e.size := hl
   simp at hl2; omega
  have hsz : (a.eval x).cells.size = e.size := by simpa using hvl
  obtain ⟨f1, f2⟩ := fill_step (i * e.size) (a.eval x) cs (by omega)
  have hnew := Rt.splice (i := i) hr hv (by omega) (cs' := ((a.eval x).cells.zipIdx.foldl (fun cs (c, j) => cs.setIfInBounds (i * e.size + j) c) cs).toList) (by simpa using f1)
   (fun p => by rw [Array.getElem?_toList, f2, hsz]; simp)
  obtain ⟨cs', q1, q2⟩ := addParts_rt (P := P) hb hev hk hc r _ _ (fun k hk' => ho k (by simp [partKeys, hk'])) h hnew
  refine ⟨cs', ?_, q2⟩
  simp only [List.map_cons, Instr.fill, hsz]
  rw [if_neg (by simp; omega)]
  exact q1
end Go.Ab
