/- Regions whose order is the text's. -/
import Derived.Test.YtlhinijgdffcdaaGreatDoorCong2
namespace Go.Ab
open Go
set_option linter.unusedVariables false
set_option linter.unusedSimpArgs false
structure Later (np : Nat) (E : Env) (tb : Tbl) (E' : Env) (tb' : Tbl) : Prop where
 av : E'.av = E.av
 gl : E'.gl = E.gl
 pin : ∀ k, k < np → E'.κ k = E.κ k
 form : ∀ k, k < np → ∀ e', tb' k = some e' → ∃ e, tb k = some e ∧ SameForm e e' ∧ (e.fz = true → e'.fz = true)
theorem Later.refl {np : Nat} {E : Env} {tb : Tbl} : Later np E tb E tb := ⟨rfl, rfl, fun _ _ => rfl, fun k _ e' h => ⟨e', h, SameForm.refl, id⟩⟩
theorem Later.trans {np : Nat} {E E' E'' : Env} {tb tb' tb'' : Tbl} (h : Later np E tb E' tb') (k : Later np E' tb' E'' tb'') : Later np E tb E'' tb'' := by
 refine ⟨k.av.trans h.av, k.gl.trans h.gl, fun j hj => (k.pin j hj).trans (h.pin j hj), fun j hj e' he => ?_⟩
 obtain ⟨e1, q1, q2, q3⟩ := k.form j hj e' he
 obtain ⟨e2, r1, r2, r3⟩ := h.form j hj e1 q1
 exact ⟨e2, r1, r2.trans q2, fun hf => q3 (r3 hf)⟩
inductive Oc where
 | skip
 | done (v : S) (ef : List (Nat × Option Ent))
def stepSt (o : Oper) (st : St) : Oc → St
 | .skip => ⟨setDst st.sl o.dst (.tup []), st.tb, st.ep, st.np⟩
 | .done v ef => ⟨setDst st.sl o.dst v, st.tb.sets ef, st.ep, st.np⟩
def guardS (all : Array Oper) (o : Oper) (st : St) : Option Bool :=
 match o.guard with
 | none => some true
 | some (j, want) =>
  match (all[j]?).bind (·.dst) with
  | some d =>
   match st.sl.getD d .junk with
   | .bool b => some (b == want)
   | .tup _ => some false
   | _ => none
  | none => none
inductive Did (C : Ctx) (raw : FuncId → Bool) (i : Nat) (o : Oper) (st : St) : S → List (Nat × Option Ent) → Prop where
 | op {r : OpR} (h : opS C o st.ep i (evalS st.sl) st.tb = some r) (hg : ∀ g ∈ r.g, g = true) : Did C raw i o st r.v r.ef
 | call {fo : Operand} {ags : Array Operand} {tys : Array TypeId} {f : FuncId} {cap : List S} {v : S} {ef : List (Nat × Option Ent)} {fn : Func} {as : List S} {es : List Ent} {v' : S} {es' : List Ent}
  (ho : o.op = .call { callee := .value fo, args := ags, argTypes := tys }) (hf : evalS st.sl fo = .fn f cap)
  (H : CallDid C raw st.ep i f (ags.toList.map (evalS st.sl) ++ cap) st.tb v ef fn as es v' es') : Did C raw i o st v ef
theorem Did.lt {C : Ctx} {raw : FuncId → Bool} {i : Nat} {o : Oper} {st : St} {v : S} {ef : List (Nat × Option Ent)} (h : Did C raw i o st v ef) : i < 4096 := by
 cases h with
 | op h hg => exact opS_lt h
 | call ho hf H => exact H.hd
section
variable {E : Env} {w0 : World} {own0 : Nat → Bool → Prop} {st : St} {D : List Nat} {a : Act} {w : World} {C : Ctx} {o : Oper} {i : Nat} {raw : FuncId → Bool}
theorem Did.does {v : S} {ef : List (Nat × Option Ent)} (hgl : E.gl = C.glob) (hR : RelSt E w0 own0 st D a.tmps w) (hi : i ∉ D) (hep : 1 ≤ st.ep) (h : Did C raw i o st v ef) : OpDoes C.P E w0 own0 st D i o v ef a w := by
 cases h with
 | op h hg => exact (opS_good hgl hR hi h hg).does
 | call ho hf H => exact call_does hgl hR hi hep ho hf H
theorem gds_some {α : Type} : ∀ {gs : List Bool} {x : Option α} {r : α}, gds gs x = some r → (∀ g ∈ gs, g = true) ∧ x = some r
 | [], x, r, h => ⟨by simp, h⟩
 | b :: q, x, r, h => by
  simp only [gds, gd] at h
  cases b with
  | false => simp at h
  | true =>
   obtain ⟨h1, h2⟩ := gds_some (by simpa using h)
   exact ⟨by simpa using h1, h2⟩
theorem aopK_did {R : Type} {cf : CallF R} {draw : Bool} {K : List Rec → St → Option R} {r : R} (hcf : CfOk C.P C.glob raw cf) (h : aopK C raw cf draw i o st K = some r) :
  ∃ v ef, Did C raw i o st v ef ∧ K (recOf draw i o st ef) (stepSt o st (.done v ef)) = some r := by
 unfold aopK at h
 simp only at h
 cases hc : isCallV o.op with
 | true =>
  rw [hc] at h
  simp only [iteH] at h
  split at h <;> try contradiction
  rename_i f args cap hcal
  have : ∃ fo ags tys, o.op = .call { callee := .value fo, args := ags, argTypes := tys } ∧ evalS st.sl fo = .fn f cap ∧ args = ags.toList.map (evalS st.sl) := by
   revert hcal
   unfold callee
   split
   ·rename_i fo ags tys hop
    split
    ·rename_i g cap' hfn
     intro hh
     simp only [Option.some.injEq, Prod.mk.injEq] at hh
     obtain ⟨rfl, rfl, rfl⟩ := hh
     exact ⟨fo, ags, _, hop, hfn, rfl⟩
    ·intro hh; cases hh
   ·intro hh; cases hh
  obtain ⟨fo, ags, tys, hop, hfn, rfl⟩ := this
  obtain ⟨v, ef, fn, as, es, v', es', H, hK⟩ := acall_did hcf h
  exact ⟨v, ef, .call hop hfn H, hK⟩
 | false =>
  rw [hc] at h
  simp only [iteH] at h
  split at h <;> try contradiction
  rename_i rr hop
  obtain ⟨h1, h2⟩ := gds_some h
  exact ⟨rr.v, rr.ef, .op hop h1, h2⟩
inductive Path (C : Ctx) (raw : FuncId → Bool) (all : Array Oper) (draw : Bool) : List Oper → Nat → St → List Rec → List Oc → St → List Rec → Prop where
 | nil {i : Nat} {st : St} {rs : List Rec} : Path C raw all draw [] i st rs [] st rs
 | done {o : Oper} {r : List Oper} {i : Nat} {st st' : St} {rs rs' : List Rec} {ocs : List Oc} {v : S} {ef : List (Nat × Option Ent)} (hg : guardS all o st = some true) (hd : Did C raw i o st v ef)
  (h : Path C raw all draw r (i + 1) (stepSt o st (.done v ef)) (rs ++ recOf draw i o st ef) ocs st' rs') : Path C raw all draw (o :: r) i st rs (.done v ef :: ocs) st' rs'
 | skip {o : Oper} {r : List Oper} {i : Nat} {st st' : St} {rs rs' : List Rec} {ocs : List Oc} (hg : guardS all o st = some false)
  (h : Path C raw all draw r (i + 1) (stepSt o st .skip) rs ocs st' rs') : Path C raw all draw (o :: r) i st rs (.skip :: ocs) st' rs'
theorem set_same {l : List S} {d : Nat} {v : S} (h : l.getD d .junk = v) (hv : v ≠ .junk) : l.set d v = l := by
 apply List.ext_getElem?
 intro j
 rw [List.getElem?_set]
 by_cases hj : d = j
 ·subst hj
  by_cases hl : d < l.length
  ·rw [if_pos rfl, if_pos hl]
   rw [List.getD_eq_getElem?_getD, List.getElem?_eq_getElem hl] at h
   rw [List.getElem?_eq_getElem hl]
   exact congrArg some h.symm
  ·exfalso; apply hv
   rw [← h, List.getD_eq_getElem?_getD, List.getElem?_eq_none (by omega)]; rfl
 ·rw [if_neg hj]
theorem aopsK_path {R : Type} {cf : CallF R} {draw : Bool} {all : Array Oper} {K : List Rec → St → Option R} {r : R} (hcf : CfOk C.P C.glob raw cf) :
  ∀ (l : List Oper) (i : Nat) (rs : List Rec) (st : St), aopsK C raw cf draw all l i rs st K = some r → ∃ ocs st' rs', Path C raw all draw l i st rs ocs st' rs' ∧ K rs' st' = some r
 | [], i, rs, st, h => ⟨[], st, rs, .nil, h⟩
 | o :: l, i, rs, st, h => by
  have run : aopK C raw cf draw i o st (fun rc st' => aopsK C raw cf draw all l (i + 1) (rs ++ rc) st' K) = some r → guardS all o st = some true →
    ∃ ocs st' rs', Path C raw all draw (o :: l) i st rs ocs st' rs' ∧ K rs' st' = some r := by
   intro h hg
   obtain ⟨v, ef, h1, h2⟩ := aopK_did hcf h
   obtain ⟨ocs, st', rs', q1, q2⟩ := aopsK_path hcf l (i + 1) _ _ h2
   exact ⟨_, st', rs', .done hg h1 q1, q2⟩
  have skip : aopsK C raw cf draw all l (i + 1) rs ⟨setDst st.sl o.dst (.tup []), st.tb, st.ep, st.np⟩ K = some r → guardS all o st = some false →
    ∃ ocs st' rs', Path C raw all draw (o :: l) i st rs ocs st' rs' ∧ K rs' st' = some r := by
   intro h hg
   obtain ⟨ocs, st', rs', q1, q2⟩ := aopsK_path hcf l (i + 1) _ _ h
   exact ⟨_, st', rs', .skip hg q1, q2⟩
  unfold aopsK at h
  simp only at h
  split at h
  ·rename_i hgd
   exact run h (by simp [guardS, hgd])
  ·rename_i j want hgd
   split at h <;> try contradiction
   rename_i d hdst
   split at h <;> try contradiction
   ·rename_i b hb
    cases b with
    | true =>
     have hs : st.sl.set d (.bool true) = st.sl := set_same hb (by simp)
     simp only [cond_true, hs] at h
     cases want with
     | true => exact run (by simpa [iteH] using h) (by simp only [guardS, hgd, hdst, hb]; try rfl)
     | false => exact skip (by simpa [iteH] using h) (by simp only [guardS, hgd, hdst, hb]; try rfl)
    | false =>
     have hs : st.sl.set d (.bool false) = st.sl := set_same hb (by simp)
     simp only [cond_false, hs] at h
     cases want with
     | true => exact skip (by simpa [iteH] using h) (by simp only [guardS, hgd, hdst, hb]; try rfl)
     | false => exact run (by simpa [iteH] using h) (by simp only [guardS, hgd, hdst, hb]; try rfl)
   ·rename_i fs hb
    exact skip h (by simp only [guardS, hgd, hdst, hb]; try rfl)
theorem wanted_of {all : Array Oper} {b : Bool} (hR : RelSt E w0 own0 st D a.tmps w) (h : guardS all o st = some b) : Region.wanted o (yielded all a.tmps) = b := by
 unfold guardS at h
 unfold Region.wanted
 split at h
 ·rename_i hg; simp only [hg]; exact Option.some.inj h
 ·rename_i j want hg
  simp only [hg]
  split at h <;> try contradiction
  rename_i d hd
  have hs := hR.slot d
  unfold yielded
  simp only [hd, Option.bind_some]
  split at h <;> try contradiction
  ·rename_i bb hb
   rw [hb] at hs
   have hv := relV_bool.1 hs
   have : a.tmps[d]? = some (.bool bb) := by
    rw [Array.getD_eq_getD_getElem?] at hv
    cases hh : a.tmps[d]? with
    | none => rw [hh] at hv; simp [undef] at hv
    | some x => rw [hh] at hv; simp at hv; rw [hv]
   rw [this]
   simp only [Option.some.injEq] at h
   rw [← h]
   rfl
  ·rename_i fs hb
   rw [hb, relV_scalar rfl] at hs
   obtain ⟨vs, hv, _⟩ := hs
   have hv := (List.cons.inj hv).1
   simp only [Option.some.injEq] at h
   rw [← h]
   cases hh : a.tmps[d]? with
   | none => rfl
   | some x =>
    rw [Array.getD_eq_getD_getElem?, hh] at hv
    simp at hv
    rw [hv]; rfl
theorem relV_tup_nil {tb : Tbl} : RelV E tb w (.tup []) undef := by
 rw [relV_scalar rfl]; exact ⟨[], rfl, rfl⟩
theorem put_defers (a : Act) (d : Option Tmp) (v : Value) : (a.put d v).defers = a.defers := by cases d <;> rfl
theorem step_later {v : S} {ef : List (Nat × Option Ent)} {E' : Env} (hnp : st.np < 64) (hep : 1 ≤ st.ep) (h1 : E'.av = E.av) (h2 : E'.gl = E.gl) (h3 : ∀ k, k / 64 ≠ st.ep * 4096 + i → E'.κ k = E.κ k)
  (h4 : ∀ k e', st.tb.sets ef k = some e' → k / 64 ≠ st.ep * 4096 + i → ∃ e, st.tb k = some e ∧ SameForm e e' ∧ (e.fz = true → e'.fz = true)) : Later st.np E st.tb E' (st.tb.sets ef) := by
 have hne : ∀ k, k < st.np → k / 64 ≠ st.ep * 4096 + i := by intro k hk; omega
 exact ⟨h1, h2, fun k hk => h3 k (hne k hk), fun k hk e' he => h4 k e' he (hne k hk)⟩
theorem seq_good {all : Array Oper} {draw : Bool} : ∀ {l : List Oper} {i : Nat} {st st' : St} {rs rs' : List Rec} {ocs : List Oc} {E : Env} {D : List Nat} {a : Act} {w : World}, Path C raw all draw l i st rs ocs st' rs' → l = all.toList.drop i →
  E.gl = C.glob → RelSt E w0 own0 st D a.tmps w → (∀ d ∈ D, d < i ∧ d < 4096) → 1 ≤ st.ep → st.np < 64 →
  ∀ (Q : Exit → Act → World → Prop), (∀ E' a' w' D', RelSt E' w0 own0 st' D' a'.tmps w' → (∀ d ∈ D', d < 4096) → a'.defers = a.defers → Later st.np E st.tb E' st'.tb → st'.ep = st.ep → st'.np = st.np → st'.sl.length = st.sl.length → Q .normal a' w') →
  wpOps C.P all Q ((List.range all.size).drop i) a w := by
 intro l i st st' rs rs' ocs E D a w h
 induction h generalizing E D a w with
 | nil =>
  intro hl hgl hR hD hep hnp Q hQ
  rename_i i st rs
  have hle : all.size ≤ i := by
   have := congrArg List.length hl
   simp at this; omega
  rw [List.drop_eq_nil_of_le (by simpa using hle)]
  exact hQ E a w D hR (fun d hd => (hD d hd).2) rfl Later.refl rfl rfl rfl
 | done hg hd hp ih =>
  intro hl hgl hR hD hep hnp Q hQ
  rename_i o r i st st' rs rs' ocs v ef
  have hlt : i < all.toList.length := by
   by_cases h : i < all.toList.length
   ·exact h
   ·rw [List.drop_eq_nil_of_le (by omega)] at hl; cases hl
  rw [List.drop_eq_getElem_cons hlt] at hl
  obtain ⟨ho, hr⟩ := List.cons.inj hl
  have hlt2 : i < (List.range all.size).length := by simpa using hlt
  rw [List.drop_eq_getElem_cons hlt2]
  have hri : (List.range all.size)[i] = i := by simp
  rw [hri]
  simp only [wpOps]
  have hoi : all[i]? = some o := by rw [← Array.getElem?_toList, List.getElem?_eq_getElem hlt, ho]
  rw [hoi]
  simp only [wanted_of hR hg, if_true]
  left
  refine hd.does hgl hR (fun h => by have := (hD i h).1; omega) hep _ Q ?_
  intro u w' E' h1 h2 h3 h4 h5
  have hlat := step_later (v := v) hnp hep h2 h3 h4 h5
  refine ih hr (h3.trans hgl) h1 ?_ hep hnp Q ?_
  ·intro d hd'
   rcases List.mem_cons.1 hd' with rfl | hd'
   ·exact ⟨by omega, hd.lt⟩
   ·have := hD d hd'; exact ⟨by omega, this.2⟩
  ·intro E'' a' w'' D' q1 q2 q3 q4 q5 q6 q7
   refine hQ E'' a' w'' D' q1 q2 (by rw [q3, put_defers]) (hlat.trans q4) q5 q6 ?_
   rw [q7]; simp only [stepSt, setDst]; split <;> simp
 | skip hg hp ih =>
  intro hl hgl hR hD hep hnp Q hQ
  rename_i o r i st st' rs rs' ocs
  have hlt : i < all.toList.length := by
   by_cases h : i < all.toList.length
   ·exact h
   ·rw [List.drop_eq_nil_of_le (by omega)] at hl; cases hl
  rw [List.drop_eq_getElem_cons hlt] at hl
  obtain ⟨ho, hr⟩ := List.cons.inj hl
  have hlt2 : i < (List.range all.size).length := by simpa using hlt
  rw [List.drop_eq_getElem_cons hlt2]
  have hri : (List.range all.size)[i] = i := by simp
  rw [hri]
  simp only [wpOps]
  have hoi : all[i]? = some o := by rw [← Array.getElem?_toList, List.getElem?_eq_getElem hlt, ho]
  rw [hoi]
  simp only [wanted_of hR hg, Bool.false_eq_true, if_false]
  have h1 := hR.put' (s := .tup []) (v := undef) relV_tup_nil (by simp [keysOf, keysOfL]) o.dst
  refine ih hr hgl h1 (fun d hd' => ⟨by have := (hD d hd').1; omega, (hD d hd').2⟩) hep hnp Q ?_
  intro E'' a' w'' D' q1 q2 q3 q4 q5 q6 q7
  refine hQ E'' a' w'' D' q1 q2 (by rw [q3, put_defers]) q4 q5 q6 ?_
  rw [q7]; simp only [stepSt, setDst]; split <;> simp
end
end Go.Ab
