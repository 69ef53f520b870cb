/- RawB: a part of the proofs of this seat's statements. -/
import Derived.Test.YtepemhpippkmiaaJoin
import Derived.Test.YtepemhpippkmiaaRaw7
/- Texts of which it is not told what they do, but what holds behind them. -/
namespace Go.Ab
open Go
set_option linter.unusedVariables false
set_option linter.unusedSimpArgs false

/-- in no block that was there before may numbers lie -/
def Shut (E : Env) (w0 : World) : Prop := ∀ b, b < w0.heap.size → E.av (.int .i64) b

def GoodN {R : Type} (C : Ctx) (c : Code) (st : St) (K : Out → St → Option R) (r : R) : Prop :=
  1 ≤ st.ep → st.np < 64 → ∀ (E : Env) (w0 : World) (own0 : Nat → Bool → Prop) (a : Act) (w : World), Shut E w0 → E.gl = C.glob → RelSt E w0 own0 st [] a.tmps w →
    c.wp C.P (fun e a' w' => ∃ o st', K o st' = some r ∧ e = outE o ∧ Kept E w0 own0 st a st' a' w') a w

section
variable {C : Ctx} {raw : FuncId → Bool}

theorem GoodN.of {R : Type} {c : Code} {st : St} {K : Out → St → Option R} {r : R} (h : Good C c st K r) : GoodN C c st K r := by
  obtain ⟨o, st', h1, h2⟩ := h
  intro hep hnp E w0 own0 a w _ hgl hR
  refine Code.wp_mono' (h2 hep hnp E w0 own0 a w hgl hR) ?_
  rintro e a' w' ⟨rfl, hk⟩
  exact ⟨o, st', h1, rfl, hk⟩

theorem goodN_seq {R : Type} {x y : Code} {st : St} {K : Out → St → Option R} {J : St → Option R} {r : R} (h : GoodN C x st (fun o st' => match o with | .norm => J st' | o => K o st') r) (hy : ∀ st', J st' = some r → GoodN C y st' K r) : GoodN C (.seq x y) st K r := by
  intro hep hnp E w0 own0 a w hS hgl hR
  refine wp_seq (Code.wp_mono' (h hep hnp E w0 own0 a w hS hgl hR) ?_)
  rintro e a' w' ⟨o, st', h1, rfl, hk⟩
  cases o with
  | norm =>
    obtain ⟨⟨E', q1, q2⟩, q3, q4, q5, q6⟩ := hk
    show y.wp _ _ _ _
    refine Code.wp_mono' (hy st' h1 q4 (by omega) E' w0 own0 a' w' (fun b hb => by rw [q2.av]; exact hS b hb) (q2.gl.trans hgl) q1) ?_
    rintro e a'' w'' ⟨o2, st2, h3, rfl, hk⟩
    exact ⟨o2, st2, h3, rfl, hk.trans q2 q3 q5 q6⟩
  | exit j => exact ⟨.exit j, st', h1, rfl, hk⟩
  | ret => exact ⟨.ret, st', h1, rfl, hk⟩

theorem goodN_spine {R : Type} {cf : CallF R} {lf : LoopF R} {f : FuncId} (hm : C.P.follows .mixedOrders = true) (hcf : CfOk C.P C.glob raw cf) (hlf : LfOk C f lf) {K : Out → St → Option R} {J : St → Option R} {r : R} :
    ∀ (n : Nat) (c : Code) (st : St), codeOk C.bef c = true → (∀ b ∈ loopsOf c, loopBody C.P f (firstRegion b) = b) → spineK C raw cf lf n c st J K = some r → (∀ st', J st' = some r → GoodN C (restC n c) st' K r) → GoodN C c st K r
  | 0, c, st, hc, hl, h, hJ => by
    simp only [spineK] at h
    exact hJ st h
  | n + 1, .seq x y, st, hc, hl, h, hJ => by
    simp only [codeOk, Bool.and_eq_true] at hc
    simp only [spineK] at h
    refine goodN_seq (J := fun st' => spineK C raw cf lf n y st' J K) (.of (good_code hm hcf hlf hc.1 (fun b hb => hl b (by simp [loopsOf, hb])) h)) fun st' h' => ?_
    exact goodN_spine hm hcf hlf n y st' hc.2 (fun b hb => hl b (by simp [loopsOf, hb])) h' hJ
  | n + 1, .skip, _, _, _, h, _ | n + 1, .region .., _, _, _, h, _ | n + 1, .cond .., _, _, _, h, _ | n + 1, .block .., _, _, _, h, _ | n + 1, .loop _, _, _, _, h, _ | n + 1, .rangeFunc .., _, _, _, h, _
  | n + 1, .exit _, _, _, _, h, _ | n + 1, .scope _, _, _, _, h, _ | n + 1, .label _, _, _, _, h, _ | n + 1, .goto _, _, _, _, h, _ | n + 1, .ret, _, _, _, h, _ | n + 1, .refuse _, _, _, _, h, _ => by simp [spineK] at h

theorem goodN_cut {R : Type} {y : Code} {K : Out → St → Option R} {r : R} {m np : Nat} {live : List Nat} {jf : List S → List Ent → Option R} {st : St} (h : cutJ m np live jf st = some r) (hy : ∀ vs es, jf vs es = some r → GoodN C y (placeSt m np live vs es) K r) : GoodN C y st K r := by
  unfold cutJ at h
  simp only at h
  obtain ⟨h1, h2⟩ := iteH_some h
  rw [Bool.and_eq_true, decide_eq_true_eq, decide_eq_true_eq] at h1
  obtain ⟨rfl, rfl⟩ := h1
  split at h2 <;> try contradiction
  rename_i r0 h0
  intro hep hnp E w0 own0 a w hS hgl hR
  obtain ⟨E', q1, q2⟩ := take_place hR h0
  refine Code.wp_mono' (hy _ _ h2 (Nat.le_refl _) hnp E' w0 own0 a w (fun b hb => by rw [q2.av]; exact hS b hb) (q2.gl.trans hgl) q1) ?_
  rintro e a' w' ⟨o, st', h3, rfl, hk⟩
  exact ⟨o, st', h3, rfl, Kept.trans (st' := placeSt st.sl.length st.np live r0.1 r0.2) (E' := E') (a' := a) q2 rfl rfl (by simp [placeSt, placeL_len]) hk⟩

/-- a function does what is told, where numbers lie in no old block -/
def FnOkN (P : Program) (gl : Nat → Option S) (f : FuncId) (np : Nat) (args : List S) (es : List Ent) (v : S) (es' : List Ent) : Prop :=
  ∀ (E : Env) (w : World) (vs : List Value), E.gl = gl → Shut E w → FnIn E w args es vs →
    Calls P f vs.toArray w fun en w' => ∃ rv E', en = .returned rv ∧ FnOut E w es np E' w' es' v rv

def isTrue : S → List Ent → Option Unit
  | .bool true, [] => some ()
  | _, _ => none

theorem run_goodN {f : FuncId} {args : List S} {es : List Ent} {fn : Func} (ht : textOk C.bef C.P f = true) (hfn : C.P.funcs[f]? = some fn)
    (h : GoodN C (bodyOf C.P f) ⟨args ++ List.replicate (fn.ntmps - args.length) .junk, tbOf es, 1, npF raw f es⟩ (runFin C fn.results.toList isTrue) ()) : FnOkN C.P C.glob f (npF raw f es) args es (.bool true) [] := by
  unfold textOk at ht
  simp only [Bool.and_eq_true] at ht
  obtain ⟨⟨⟨hm, ht1⟩, ht2⟩, ht3⟩ := ht
  rw [hfn] at ht3
  simp only [Bool.and_eq_true] at ht3
  obtain ⟨c, hc⟩ := Option.isSome_iff_exists.1 ht3.2
  have hbody : bodyOf C.P f = c := by unfold bodyOf; rw [hfn]; simp [hc]
  rw [hbody] at h
  intro E w us hgl hS hin
  refine calls_of_wp hfn hc ?_
  have hR := hin.start fn.ntmps (npF raw f es) rfl
  have hnp : npF raw f es < 64 := by have := npF_le raw f es; have := hin.len; omega
  refine Code.wp_mono' (h (Nat.le_refl _) hnp E w _ { tmps := us.toArray ++ Array.replicate (fn.ntmps - us.toArray.size) undef, defers := [] } w hS hgl hR) ?_
  rintro e a' w' ⟨o, st', h1, rfl, ⟨E1, q1, q2⟩, q3, q4, q5, q6⟩
  have hnorm : o = .norm ∨ o = .ret := by
    cases o with
    | norm => exact .inl rfl
    | ret => exact .inr rfl
    | exit j => simp [runFin] at h1
  have h1 : (match resultsS C st' fn.results.toList with
      | some vs =>
        iteH (decide ((reach st'.tb 4 (addAll (List.range st'.np) (keysOfL vs))).length < 63))
          (match entsOf st'.tb (sendK (reach st'.tb 4 (addAll (List.range st'.np) (keysOfL vs)))) (reach st'.tb 4 (addAll (List.range st'.np) (keysOfL vs))) with
          | some es' => isTrue (ren (sendK (reach st'.tb 4 (addAll (List.range st'.np) (keysOfL vs)))) (oneOf vs)) es'
          | none => none)
          none
      | none => none) = some () := by
    rcases hnorm with rfl | rfl <;> exact h1
  split at h1 <;> try contradiction
  rename_i vs hvs
  obtain ⟨hlen, h1⟩ := iteH_some h1
  rw [decide_eq_true_eq] at hlen
  split at h1 <;> try contradiction
  rename_i es' hes
  obtain ⟨rv, r1, r2⟩ := results_one q1 hvs
  have q5 : st'.np = npF raw f es := q5
  obtain ⟨k1, k2⟩ := ks_pins (tb := st'.tb) (np := st'.np) (l := keysOfL vs) rfl
  obtain ⟨E2, s1, s2, s3, s4⟩ := keep_place (ps := []) (sl := List.replicate st'.sl.length .junk) q1 k1 k2 hlen hes (by simp) (fun i => by
    left; rw [List.getD_eq_getElem?_getD, List.getElem?_replicate]; split <;> rfl)
  rw [freezeAt_nil] at s1 s2 s4
  have hv : ren (sendK (reach st'.tb 4 (addAll (List.range st'.np) (keysOfL vs)))) (oneOf vs) = .bool true ∧ es' = [] := by
    generalize ren (sendK (reach st'.tb 4 (addAll (List.range st'.np) (keysOfL vs)))) (oneOf vs) = v at h1
    unfold isTrue at h1
    split at h1
    · exact ⟨rfl, rfl⟩
    · cases h1
  obtain ⟨hv1, rfl⟩ := hv
  have hpost : a'.defers = [] ∧ ∃ v, (results fn a'.tmps).run C.P w' = .ok v w' ∧ (fun (en : Ending) w'' => ∃ rv E', en = .returned rv ∧ FnOut E w es (npF raw f es) E' w'' [] (.bool true) rv) (.returned v) w' := by
    refine ⟨q3, rv, r1, rv, E2, rfl, ?_⟩
    have hl : Later (npF raw f es) E (tbOf es) E2 (tbOf []) := by rw [q5] at s2; exact q2.trans s2
    have s4' := s4 r2
    rw [hv1] at s4'
    exact ⟨s4', s1.ent, s1.inj, hl.av, hl.gl, hl.pin, hl.form, s1.hist, s1.own⟩
  rcases hnorm with rfl | rfl
  · exact hpost
  · exact hpost
end
end Go.Ab

/- MachineSpoilt: a number is written into a row that nobody owns alone. -/
namespace Go.Ab
open Go
set_option linter.unusedVariables false
set_option linter.unusedSimpArgs false
set_option maxRecDepth 4000

section
variable {P : Program} {w : World} {ev : Operand → Value} {o : Oper}
theorem ex_rem8 {t k : TypeId} {x : Operand} {p : Int} (ho : o.op = .binOp .rem t x (.const (.int .u8 5)) k) (hc : ev (.const (.int .u8 5)) = .int .u8 5) (hx : ev x = .int .u8 p) : (execOp ev o).run P w = .ok (.value (.int .u8 (Int.tmod p 5))) w := by
  unfold execOp; rw [ho]
  simp [hx, hc, eqGuard, binOp, Op.intArith, Op.intDiv, Op.intBits, Op.intCmp, Op.shift, Sem.run, bind, pure, Sem.bind]
theorem ex_eql8 {t k : TypeId} {x y : Operand} {p q : Int} (ho : o.op = .binOp .eql t x y k) (hx : ev x = .int .u8 p) (hy : ev y = .int .u8 q) : (execOp ev o).run P w = .ok (.value (.bool (decide (p = q)))) w := by
  unfold execOp; rw [ho]
  simp [hx, hy, eqGuard, binOp, Op.intArith, Op.intDiv, Op.intBits, Op.intCmp, Op.shift, Sem.run, bind, pure, Sem.bind, bne, BEq.beq]
end

def esSp (cls : List Int) (rows : List (List Int)) (ends : List Bool) : List Ent :=
  [.box (.st [.arr 256 (.int .u8) cls, .own TI 1, .own .bool 2]) false, .buf TI rows false, .buf .bool ends false]
/-- one number of one row is another one; other rows may have turned too -/
structure SpR (rows rows' : List (List Int)) (i0 : Nat) (v : Int) : Prop where
  len : rows'.length = rows.length
  lens : ∀ i, (rows'.getD i []).length = (rows.getD i []).length
  hit : (rows'.getD i0 []).getD 0 0 = v

theorem cell_obj {w : World} {b o : Nat} {v : Value} (h : w.cell? ⟨b, o, none⟩ = some v) : ∃ cur el fz, w.heap[b]? = some (.cells cur el fz) ∧ cur[o]? = some v := by
  unfold World.cell? at h
  simp only at h
  split at h
  · rename_i c el fz hb; exact ⟨c, el, fz, hb, by simpa using h⟩
  · cases h

/-- the store, and what holds behind it -/
theorem sp_store {P : Program} {E : Env} {w0 : World} {own0 : Nat → Bool → Prop} {a : Act} {w : World} {M : Nat} {cls l : List Int} {rows : List (List Int)} {ends : List Bool} {how kk : Int} (hM : 112 ≤ M) (hS : Shut E w0) (hgl : ∀ g, E.gl g = none)
    (hR : RelSt E w0 own0 (placeSt M 0 [3, 4, 11, 12] [.int .u8 how, .sl (.int .u8) l, .ptr 0 [], .int .i64 kk] (esSp cls rows ends)) [] a.tmps w) {i0 : Nat} (hi0 : i0 < rows.length) (hne : 0 < (rows.getD i0 []).length) {v : Int} (hv : inK .i64 v = true) (hs1 : cellsT P 3 = some 1) :
    ∃ bd br ob nC b o cap, a.eval (.tmp 11) = .pointer (some ⟨bd, 0, none⟩) ∧ w.cell? ⟨bd, 256, none⟩ = some (.slice (some ⟨br, ob, none⟩) rows.length nC) ∧ w.cell? ⟨br, ob + i0 * 1, none⟩ = some (.slice (some ⟨b, o, none⟩) (rows.getD i0 []).length cap) ∧
      ∃ w1 : World, (∀ (ev : Operand → Value) (op : Oper) (x y : Operand), op.op = .store 3 x y → ev x = .pointer (some ⟨b, o + 0 * 1, none⟩) → ev y = .int .i64 v → (execOp ev op).run P w = .ok .skip w1) ∧
        ∃ rows', SpR rows rows' i0 v ∧ ∀ tmps : Array Value, tmps.size = a.tmps.size → tmps.getD 4 undef = a.tmps.getD 4 undef → tmps.getD 11 undef = a.tmps.getD 11 undef →
          RelSt E w0 own0 (placeSt M 0 [4, 11] [.sl (.int .u8) l, .ptr 0 []] (esSp cls rows' ends)) [] tmps w1 := by
  have hsize : a.tmps.size = M := by rw [← hR.size]; simp [placeSt, placeL_len]
  have hslA : (placeSt M 0 [3, 4, 11, 12] [.int .u8 how, .sl (.int .u8) l, .ptr 0 [], .int .i64 kk] (esSp cls rows ends)).sl.getD 4 .junk = .sl (.int .u8) l := by
    show (((((List.replicate M S.junk).set 3 _).set 4 _).set 11 _).set 12 _).getD 4 .junk = _
    rw [List.getD_eq_getElem?_getD, List.getElem?_set_ne (by omega), List.getElem?_set_ne (by omega), List.getElem?_set_self (by simp; omega)]; rfl
  have hslB : (placeSt M 0 [3, 4, 11, 12] [.int .u8 how, .sl (.int .u8) l, .ptr 0 [], .int .i64 kk] (esSp cls rows ends)).sl.getD 11 .junk = .ptr 0 [] := by
    show (((((List.replicate M S.junk).set 3 _).set 4 _).set 11 _).set 12 _).getD 11 .junk = _
    rw [List.getD_eq_getElem?_getD, List.getElem?_set_ne (by omega), List.getElem?_set_self (by simp; omega)]; rfl
  have q11 := hR.slot 11
  rw [hslB] at q11
  have q11 : RelV E (tbOf (esSp cls rows ends)) w (.ptr 0 []) (a.tmps.getD 11 undef) := q11
  have q4 := hR.slot 4
  rw [hslA] at q4
  have q4 : RelV E (tbOf (esSp cls rows ends)) w (.sl (.int .u8) l) (a.tmps.getD 4 undef) := q4
  have q11' := q11
  rw [relV_scalar rfl] at q11'
  have e0 := hR.ent 0 _ (show (tbOf (esSp cls rows ends)) 0 = some _ from rfl)
  have e1 := hR.ent 1 _ (show (tbOf (esSp cls rows ends)) 1 = some _ from rfl)
  have e2 := hR.ent 2 _ (show (tbOf (esSp cls rows ends)) 2 = some _ from rfl)
  have q11' : True ∧ ∃ b o, E.κ 0 = some (b, o) ∧ [a.tmps.getD 11 undef] = [.pointer (some ⟨b, o + 0, none⟩)] := q11'
  obtain ⟨_, bd, od, hκ0, hp11⟩ := q11'
  obtain ⟨bd', cs, hκ0', hbd, hlies, hrel, hplain, hfree0, hnav0⟩ := e0
  rw [hκ0] at hκ0'; cases hκ0'
  have hp11 : a.tmps.getD 11 undef = .pointer (some ⟨bd, 0, none⟩) := (List.cons.inj hp11).1
  have hrel0 := hrel
  have hrel : ∃ c1 c2, cs = c1 ++ c2 ∧ Rt w (E.ok _) (.arr 256 (.int .u8)) c1 cls ∧ ∃ c3 c4, c2 = c3 ++ c4 ∧ (∃ ad cap, c3 = [.slice ad rows.length cap] ∧ rows.length ≤ cap ∧ match E.κ 1 with
      | some (b, o) => ad = some ⟨b, o, none⟩ ∧ (∀ i, i < cap * Ty.size TI → (w.cell? ⟨b, o + i, none⟩).isSome) ∧ cap ≤ CAPM
      | none => cap = 0) ∧ ∃ c5 c6, c4 = c5 ++ c6 ∧ (∃ ad cap, c5 = [.slice ad ends.length cap] ∧ ends.length ≤ cap ∧ match E.κ 2 with
      | some (b, o) => ad = some ⟨b, o, none⟩ ∧ (∀ i, i < cap * Ty.size .bool → (w.cell? ⟨b, o + i, none⟩).isSome) ∧ cap ≤ CAPM
      | none => cap = 0) ∧ c6 = [] := hrel
  obtain ⟨c1, c2, rfl, r1, c3, c4, rfl, ⟨nA, nC, rfl, hc1, hn⟩, c5, c6, rfl, ⟨eA, eC, rfl, hc2, he⟩, rfl⟩ := hrel
  have hl1 : c1.length = 256 := Rt.length r1
  have hcell1 : w.cell? ⟨bd, 256, none⟩ = some (.slice nA rows.length nC) := by
    have := hlies 256 (.slice nA rows.length nC) (by rw [List.getElem?_append_right (by omega), hl1]; rfl)
    rwa [Nat.zero_add] at this
  obtain ⟨hrl, e1⟩ := e1
  obtain ⟨hel, e2⟩ := e2
  cases hκ1 : E.κ 1 with
  | none =>
    rw [hκ1] at e1
    have e1 : rows = [] := e1
    subst e1
    simp at hi0
  | some pr =>
  obtain ⟨br, ob⟩ := pr
  rw [hκ1] at e1 hn
  obtain ⟨hbr, hnav1, hfree1, hrows⟩ := e1
  obtain ⟨rfl, hcap1, hcm1⟩ := hn
  -- the rows, as they lie
  have hrowx : ∀ i : Nat, ∃ t : Nat × Nat × Nat, ∀ h : i < rows.length, ∃ ad, Lies w br (ob + i * 1) [.slice ad rows[i].length t.1] ∧ rows[i].length ≤ t.1 ∧ rows[i].length ≤ MAXL ∧
      (rows[i] ≠ [] → ad = some ⟨t.2.1, t.2.2, none⟩ ∧ E.ok (tbOf (esSp cls rows ends)) (.int .i64) t.2.1 ∧ t.2.1 < w.heap.size ∧ ∀ j (hj : j < rows[i].length), w.cell? ⟨t.2.1, t.2.2 + j, none⟩ = some (.int .i64 rows[i][j]) ∧ inK .i64 rows[i][j] = true) := by
    intro i
    by_cases h : i < rows.length
    · obtain ⟨ecs, l1, ad, cap, rfl, l2, l3, l4⟩ := hrows i h
      rcases l4 with l4 | ⟨bi, oi, rfl, hok, hlt, l5⟩
      · exact ⟨(cap, 0, 0), fun _ => ⟨ad, l1, l2, l3, fun hx => absurd l4 hx⟩⟩
      · refine ⟨(cap, bi, oi), fun _ => ⟨_, l1, l2, l3, fun _ => ⟨rfl, hok, hlt, fun j hj => ?_⟩⟩⟩
        obtain ⟨ecs, m1, m2⟩ := l5 j hj
        obtain ⟨rfl, m3⟩ := m2
        have h1 := m1 0 _ rfl
        rw [show oi + j * Ty.size (.int .i64) + 0 = oi + j by simp [Ty.size]] at h1
        exact ⟨h1, m3⟩
    · exact ⟨(0, 0, 0), fun h' => absurd h' h⟩
  obtain ⟨tf, htf⟩ := Classical.axiomOfChoice hrowx
  have hget : ∀ i (h : i < rows.length), rows.getD i [] = rows[i] := fun i h => by rw [List.getD_eq_getElem?_getD, List.getElem?_eq_getElem h]; rfl
  rw [hget i0 hi0] at hne
  obtain ⟨ad0, k1, k2, k3, k4⟩ := htf i0 hi0
  obtain ⟨rfl, hokb, hblt, hels⟩ := k4 (by intro z; rw [z] at hne; simp at hne)
  generalize hb : (tf i0).2.1 = b at k1 hokb hblt hels
  generalize ho : (tf i0).2.2 = o at k1 hels
  have hc0 := (hels 0 hne).1
  rw [Nat.add_zero] at hc0
  obtain ⟨cur, el, fz, hheap, hcur⟩ := cell_obj hc0
  -- the block is new, and not frozen
  have hnew : w0.heap.size ≤ b := by
    by_cases h : b < w0.heap.size
    · exact absurd (hS b h) hokb.1
    · omega
  have hun : fz.1 = fz.2 ∨ cur.size ≤ fz.1 := hR.hist.free b _ (.inl hnew) hheap cur el fz.1 fz.2 rfl
  have hocur : o < cur.size := by
    by_cases h : o < cur.size
    · exact h
    · rw [Array.getElem?_eq_none (by omega)] at hcur; cases hcur
  have h1v : (Value.int .i64 v).oneCell' = true := by simp [Value.oneCell']
  obtain ⟨cur', s1, s2⟩ := run_storeRow (P := P) (b := b) (el := el) (fz := fz) o [Value.int .i64 v] 0 cur w hheap hun (by simp; omega) (by intro u hu; rw [List.mem_singleton.1 hu]; exact h1v)
  have hcv1 : (Value.int .i64 v).cells.toList = [Value.int .i64 v] := rfl
  have hcv2 : (Value.int .i64 v).cells.size = 1 := rfl
  obtain ⟨w1, hw1⟩ : ∃ w1 : World, w1 = { w with heap := w.heap.setIfInBounds b (.cells cur' el fz) } := ⟨_, rfl⟩
  have hsz' : cur'.size = cur.size := by have := s2.1; simpa using this
  have hwb : w1.heap[b]? = some (.cells cur' el fz) := by
    rw [hw1]
    show (w.heap.setIfInBounds b _)[b]? = _
    rw [Array.getElem?_setIfInBounds_self_of_lt hblt]
  have hwo : ∀ c, c ≠ b → w1.heap[c]? = w.heap[c]? := fun c hc => by
    rw [hw1]
    show (w.heap.setIfInBounds b _)[c]? = _
    rw [Array.getElem?_setIfInBounds_ne (fun q => hc q.symm)]
  have hws : w1.heap.size = w.heap.size := by rw [hw1]; simp
  have hcc : ∀ c i, w1.cell? ⟨c, i, none⟩ = if c = b ∧ i = o then some (.int .i64 v) else w.cell? ⟨c, i, none⟩ := by
    intro c i
    by_cases hc : c = b
    · subst hc
      rw [cell_arr hwb, cell_arr hheap, ← Array.getElem?_toList, s2.2.2]
      by_cases hi : i = o
      · subst hi; rw [if_pos (by simp), if_pos ⟨rfl, rfl⟩]; simp
      · rw [if_neg (by simp; omega), if_neg (fun z => hi z.2), Array.getElem?_toList]
    · rw [cell_same (hwo c hc), if_neg (fun z => hc z.1)]
  have hsome : ∀ c i, (w1.cell? ⟨c, i, none⟩).isSome = (w.cell? ⟨c, i, none⟩).isSome := by
    intro c i
    rw [hcc]
    split
    · rename_i h; rw [h.1, h.2, hc0]; rfl
    · rfl
  have hrunS : ∀ (ev : Operand → Value) (op : Oper) (x y : Operand), op.op = .store 3 x y → ev x = .pointer (some ⟨b, o + 0 * 1, none⟩) → ev y = .int .i64 v → (execOp ev op).run P w = .ok .skip w1 := by
    intro ev op x y hop hx hy
    rw [show o + 0 * 1 = o by omega] at hx
    unfold execOp; rw [hop]
    simp only [Instr.storeAt, hx, Instr.sureAddr, storeVar, Sem.run_bind, Sem.run_pure, Result.andThen_ok, run_sizeT hs1, hy, hcv2, ne_eq, not_true_eq_false, if_false, hcv1, s1, hw1]
  -- the new rows
  obtain ⟨rows', hrows'⟩ : ∃ rows' : List (List Int), rows' = (List.range rows.length).map fun i => (List.range (rows.getD i []).length).map fun j => if (tf i).2.1 = b ∧ (tf i).2.2 + j = o then v else (rows.getD i []).getD j 0 := ⟨_, rfl⟩
  have hlen' : rows'.length = rows.length := by rw [hrows']; simp
  have hat' : ∀ i (h : i < rows.length), rows'[i]'(by omega) = (List.range (rows.getD i []).length).map fun j => if (tf i).2.1 = b ∧ (tf i).2.2 + j = o then v else (rows.getD i []).getD j 0 := fun i h => by
    simp only [hrows']; simp
  have hgetD' : ∀ i, rows'.getD i [] = if i < rows.length then (List.range (rows.getD i []).length).map (fun j => if (tf i).2.1 = b ∧ (tf i).2.2 + j = o then v else (rows.getD i []).getD j 0) else [] := fun i => by
    by_cases h : i < rows.length
    · rw [if_pos h, List.getD_eq_getElem?_getD, List.getElem?_eq_getElem (by omega)]; exact hat' i h
    · rw [if_neg h, List.getD_eq_getElem?_getD, List.getElem?_eq_none (by omega)]; rfl
  have hSp : SpR rows rows' i0 v := by
    refine ⟨hlen', fun i => ?_, ?_⟩
    · rw [hgetD']
      by_cases h : i < rows.length
      · rw [if_pos h]; simp
      · rw [if_neg h, List.getD_eq_getElem?_getD, List.getElem?_eq_none (by omega)]; rfl
    · rw [hgetD', if_pos hi0]
      rw [List.getD_eq_getElem?_getD, List.getElem?_map, List.getElem?_range (by rw [hget i0 hi0]; exact hne)]
      simp [hb, ho]
  have hbne : ∀ k p e, E.κ k = some p → tbOf (esSp cls rows ends) k = some e → e.fz = false → p.1 ≠ b := hokb.2
  have hbd' : bd ≠ b := hbne 0 _ _ hκ0 rfl rfl
  have hbr' : br ≠ b := hbne 1 _ _ hκ1 rfl rfl
  -- tables alike
  have htb : ∀ k e', tbOf (esSp cls rows' ends) k = some e' → ∃ e, tbOf (esSp cls rows ends) k = some e ∧ e.fz = e'.fz ∧ e.fz = false ∧ e'.keys = e.keys := by
    intro k e' hk
    match k, hk with
    | 0, hk => cases hk; exact ⟨_, rfl, rfl, rfl, rfl⟩
    | 1, hk => cases hk; exact ⟨_, rfl, rfl, rfl, rfl⟩
    | 2, hk => cases hk; exact ⟨_, rfl, rfl, rfl, rfl⟩
    | k + 3, hk => cases hk
  have hok' : ∀ t c, E.ok (tbOf (esSp cls rows ends)) t c → E.ok (tbOf (esSp cls rows' ends)) t c := by
    intro t c hc
    refine ⟨hc.1, fun k p e' hp he' hf => ?_⟩
    obtain ⟨e, h1, h2, _⟩ := htb k e' he'
    exact hc.2 k p e hp h1 (h2.trans hf)
  refine ⟨bd, br, ob, nC, b, o, (tf i0).1, hp11, hcell1, ?_, w1, hrunS, rows', hSp, fun tmps z1 z4 z11 => ?_⟩
  · have := k1 0 _ rfl
    rw [Nat.add_zero] at this
    rw [hget i0 hi0]; exact this
  have hsl' : ∀ i : Nat, ((placeSt M 0 [4, 11] [.sl (.int .u8) l, .ptr 0 []] (esSp cls rows' ends)).sl.getD i .junk = .junk) ∨ i = 4 ∨ i = 11 := by
    intro i
    by_cases h4 : i = 4
    · exact .inr (.inl h4)
    by_cases h11 : i = 11
    · exact .inr (.inr h11)
    left
    show (((List.replicate M S.junk).set 4 _).set 11 _).getD i .junk = _
    rw [List.getD_eq_getElem?_getD, List.getElem?_set_ne (by omega), List.getElem?_set_ne (by omega), List.getElem?_replicate]
    split <;> rfl
  have hsl4 : (placeSt M 0 [4, 11] [.sl (.int .u8) l, .ptr 0 []] (esSp cls rows' ends)).sl.getD 4 .junk = .sl (.int .u8) l := by
    show (((List.replicate M S.junk).set 4 _).set 11 _).getD 4 .junk = _
    rw [List.getD_eq_getElem?_getD, List.getElem?_set_ne (by omega), List.getElem?_set_self (by simp; omega)]; rfl
  have hsl11 : (placeSt M 0 [4, 11] [.sl (.int .u8) l, .ptr 0 []] (esSp cls rows' ends)).sl.getD 11 .junk = .ptr 0 [] := by
    show (((List.replicate M S.junk).set 4 _).set 11 _).getD 11 .junk = _
    rw [List.getD_eq_getElem?_getD, List.getElem?_set_self (by simp; omega)]; rfl
  have hkey : ∀ k e', tbOf (esSp cls rows' ends) k = some e' → Known 1 [] k := fun k e' hk => by
    obtain ⟨e, h1, _⟩ := htb k e' hk
    exact hR.keyT k e h1
  refine ⟨?_, fun i => ?_, fun k e' hk => ?_, ?_, ?_, ?_, hR.ownm, ?_, hkey, ?_, ?_, ?_⟩
  · rw [z1, hsize]; simp [placeSt, placeL_len]
  · rcases hsl' i with h | rfl | rfl
    · rw [h]; exact relV_junk _
    · rw [hsl4, z4, relV_scalar rfl]
      rw [relV_scalar rfl] at q4
      have q4 : Rt w (E.ok (tbOf (esSp cls rows ends))) (.slice (.int .u8)) [a.tmps.getD 4 undef] l := q4
      show Rt w1 (E.ok (tbOf (esSp cls rows' ends))) (.slice (.int .u8)) [a.tmps.getD 4 undef] l
      obtain ⟨ad, cap, h1, h2, h3, h4⟩ := q4
      refine ⟨ad, cap, h1, h2, h3, ?_⟩
      rcases h4 with h4 | ⟨b4, o4, h5, h6, h7, h8⟩
      · exact .inl h4
      · refine .inr ⟨b4, o4, h5, hok' _ _ h6, by rw [hws]; exact h7, fun j hj => ?_⟩
        obtain ⟨ecs, m1, m2⟩ := h8 j hj
        refine ⟨ecs, ?_, m2⟩
        obtain ⟨rfl, _⟩ := m2
        intro q u hq
        cases q with
        | zero =>
          simp at hq; subst hq
          have := m1 0 _ rfl
          rw [hcc, if_neg]
          · exact this
          · rintro ⟨rfl, hh⟩
            rw [hh, hc0] at this; cases this
        | succ q => simp at hq
    · rw [hsl11, z11, relV_scalar rfl, hp11]
      show True ∧ ∃ b o, E.κ 0 = some (b, o) ∧ _
      exact ⟨trivial, bd, 0, hκ0, rfl⟩
  · match k, hk with
    | 0, hk =>
      cases hk
      refine ⟨bd, c1 ++ ([.slice (some ⟨br, ob, none⟩) rows.length nC] ++ ([.slice eA ends.length eC] ++ [])), hκ0, by rw [hws]; exact hbd, ?_, ?_, hplain, fun hf => ?_, hnav0⟩
      · exact hlies.mono fun o v hv => by rw [cell_same (hwo bd hbd')]; exact hv
      · refine ⟨c1, _, rfl, Rt.mono (w := w) (ok := fun _ _ => False) (fun _ _ h => h.elim) (fun _ _ h => h.elim) (Rt.flat (t := .arr 256 (.int .u8)) rfl r1), _, _, rfl, ?_, _, _, rfl, ?_, rfl⟩
        · show ∃ ad cap, _ ∧ _
          rw [hκ1]
          exact ⟨_, nC, by rw [hlen'], by rw [hlen']; exact hc1, rfl, fun i hi => by rw [hsome]; exact hcap1 i hi, hcm1⟩
        · show ∃ ad cap, _ ∧ _
          refine ⟨eA, eC, rfl, hc2, ?_⟩
          cases hκ2 : E.κ 2 with
          | none => rw [hκ2] at he; exact he
          | some p2 =>
            obtain ⟨b2, o2⟩ := p2
            rw [hκ2] at he
            exact ⟨he.1, fun i hi => by rw [hsome]; exact he.2.1 i hi, he.2.2⟩
      · obtain ⟨c, el', lo, hi, h1, h2⟩ := hfree0 hf
        exact ⟨c, el', lo, hi, by rw [hwo bd hbd']; exact h1, h2⟩
    | 1, hk =>
      cases hk
      refine ⟨by rw [hlen']; exact hrl, ?_⟩
      rw [hκ1]
      refine ⟨by rw [hws]; exact hbr, hnav1, fun hf => ?_, fun i hi => ?_⟩
      · obtain ⟨c, el', lo, hi, h1, h2⟩ := hfree1 hf
        exact ⟨c, el', lo, hi, by rw [hwo br hbr']; exact h1, h2⟩
      · have hi' : i < rows.length := by omega
        obtain ⟨ad, l1, l2, l3, l4⟩ := htf i hi'
        have hli : (rows'[i]'hi).length = rows[i].length := by rw [hat' i hi', List.length_map, List.length_range, hget i hi']
        refine ⟨_, l1.mono fun o v hv => by rw [cell_same (hwo br hbr')]; exact hv, ad, (tf i).1, by rw [hli], by rw [hli]; exact l2, by rw [hli]; exact l3, ?_⟩
        by_cases hnil : rows[i] = []
        · left
          apply List.eq_nil_of_length_eq_zero
          rw [hli, hnil]; rfl
        · obtain ⟨m1, m2, m3, m4⟩ := l4 hnil
          refine .inr ⟨_, _, m1, hok' _ _ m2, by rw [hws]; exact m3, fun j hj => ?_⟩
          have hj' : j < rows[i].length := by omega
          have hval : (rows'[i]'hi)[j] = if (tf i).2.1 = b ∧ (tf i).2.2 + j = o then v else rows[i][j] := by
            have hh := hat' i hi'
            have : (rows'[i]'hi)[j]? = some (if (tf i).2.1 = b ∧ (tf i).2.2 + j = o then v else rows[i][j]) := by
              rw [hh, hget i hi', List.getElem?_map, List.getElem?_range hj']
              simp only [Option.map_some, List.getD_eq_getElem?_getD, List.getElem?_eq_getElem hj', Option.getD_some]
            rw [List.getElem?_eq_getElem hj] at this
            exact Option.some.inj this
          refine ⟨[.int .i64 (rows'[i]'hi)[j]], fun q u hq => ?_, rfl, ?_⟩
          · cases q with
            | zero =>
              simp at hq; subst hq
              rw [show (tf i).2.2 + j * Ty.size (.int .i64) + 0 = (tf i).2.2 + j by simp [Ty.size], hcc, hval]
              split
              · rfl
              · exact (m4 j hj').1
            | succ q => simp at hq
          · rw [hval]
            split
            · exact hv
            · exact (m4 j hj').2
    | 2, hk =>
      cases hk
      refine ⟨hel, ?_⟩
      cases hκ2 : E.κ 2 with
      | none => rw [hκ2] at e2; exact e2
      | some p2 =>
        obtain ⟨b2, o2⟩ := p2
        rw [hκ2] at e2
        obtain ⟨m1, m2, m3, m4⟩ := e2
        have hb2' : b2 ≠ b := hbne 2 _ _ hκ2 rfl rfl
        refine ⟨by rw [hws]; exact m1, m2, fun hf => ?_, fun i hi => ?_⟩
        · obtain ⟨c, el', lo, hi, h1, h2⟩ := m3 hf
          exact ⟨c, el', lo, hi, by rw [hwo b2 hb2']; exact h1, h2⟩
        · obtain ⟨ecs, n1, n2⟩ := m4 i hi
          exact ⟨ecs, n1.mono fun o v hv => by rw [cell_same (hwo b2 hb2')]; exact hv, n2⟩
    | k + 3, hk => cases hk
  · intro k j p q e' f' h1 h2 h3 h4 h5
    obtain ⟨e, g1, _⟩ := htb k e' h3
    obtain ⟨f, g2, _⟩ := htb j f' h4
    exact hR.inj k j p q e f h1 h2 g1 g2 h5
  · have H := hR.hist
    refine ⟨by rw [hw1]; exact H.os, by rw [hw1]; exact H.tape, by rw [hw1]; exact H.output, by rw [hws]; exact H.size, fun c hc hn => ?_, fun c i hs => ?_, fun c i hc hs => ?_, fun c x hc hx => ?_⟩
    · rw [hwo c (by omega)]; exact H.block c hc hn
    · rw [hsome]; exact H.cells c i hs
    · rw [hsome] at hs; exact H.cellsR c i hc hs
    · by_cases hcb : c = b
      · subst hcb
        rw [hwb] at hx; cases hx
        exact unfrozen_cells (by rw [hsz']; exact hun)
      · rw [hwo c hcb] at hx; exact H.free c x hc hx
  · intro k p e' h1 h2
    obtain ⟨e, g1, g2, _⟩ := htb k e' h2
    rw [← g2]; exact hR.own k p e h1 g1
  · intro i k hk
    rcases hsl' i with h | rfl | rfl
    · rw [h] at hk; simp [keysOf] at hk
    · rw [hsl4] at hk; simp [keysOf] at hk
    · rw [hsl11] at hk
      exact hR.keyS 11 k (by rw [hslB]; exact hk)
  · intro k e' hk j hj
    obtain ⟨e, g1, _, _, g4⟩ := htb k e' hk
    rw [g4] at hj
    exact hR.keyE k e g1 j hj
  · intro g s hg
    rw [hgl g] at hg; cases hg
  · intro t c hc
    rw [hws]; exact hR.avlt t c hc
end Go.Ab

/- MachineSpoilt: its own text, where a row is written into. -/
namespace Go.Ab
open Go
set_option linter.unusedVariables false
set_option linter.unusedSimpArgs false
set_option maxRecDepth 4000

structure SpO (r : Nat → Array Oper) : Prop where
  s7 : (r 7).size = 2
  p70 : OpIs (r 7) 0 (.move (.tmp 3)) (some 31)
  p71 : OpIs (r 7) 1 (.binOp .rem 5 (.tmp 31) (.const (.int .u8 5)) 5) (some 32)
  s9 : (r 9).size = 2
  p90 : OpIs (r 9) 0 (.binOp .eql 5 (.tmp 32) (.const (.int .u8 0)) 5) (some 36)
  p91 : OpIs (r 9) 1 (.assign (.tmp 36)) (some 35)
  s11 : (r 11).size = 2
  p110 : OpIs (r 11) 0 (.binOp .eql 5 (.tmp 32) (.const (.int .u8 1)) 5) (some 43)
  p111 : OpIs (r 11) 1 (.assign (.tmp 43)) (some 42)
  s13 : (r 13).size = 2
  p130 : OpIs (r 13) 0 (.binOp .eql 5 (.tmp 32) (.const (.int .u8 2)) 5) (some 53)
  p131 : OpIs (r 13) 1 (.assign (.tmp 53)) (some 52)
  s12 : (r 12).size = 9
  p120 : OpIs (r 12) 0 (.fieldAddr 28 (.tmp 11) 1) (some 44)
  p121 : OpIs (r 12) 1 (.load 25 (.tmp 44)) (some 45)
  p122 : OpIs (r 12) 2 (.move (.tmp 12)) (some 46)
  p123 : OpIs (r 12) 3 (.indexAddr 25 (.tmp 45) (.tmp 46)) (some 47)
  p124 : OpIs (r 12) 4 (.load 41 (.tmp 47)) (some 48)
  p125 : OpIs (r 12) 5 (.move (.tmp 12)) (some 49)
  p126 : OpIs (r 12) 6 (.binOp .add 3 (.tmp 49) (.const (.int .i64 1)) 3) (some 50)
  p127 : OpIs (r 12) 7 (.indexAddr 41 (.tmp 48) (.const (.int .i64 0))) (some 51)
  p128 : OpIs (r 12) 8 (.store 3 (.tmp 51) (.tmp 50)) none
  s14 : (r 14).size = 6
  p140 : OpIs (r 14) 0 (.fieldAddr 28 (.tmp 11) 1) (some 54)
  p141 : OpIs (r 14) 1 (.load 25 (.tmp 54)) (some 55)
  p142 : OpIs (r 14) 2 (.indexAddr 25 (.tmp 55) (.const (.int .i64 0))) (some 56)
  p143 : OpIs (r 14) 3 (.load 41 (.tmp 56)) (some 57)
  p144 : OpIs (r 14) 4 (.indexAddr 41 (.tmp 57) (.const (.int .i64 0))) (some 58)
  p145 : OpIs (r 14) 5 (.store 3 (.tmp 58) (.const (.int .i64 (-1)))) none
structure SpT (P : Program) (fs : Array Field) (f1 : Field) : Prop where
  hD : P.underlying 28 = some (.struct fs)
  h1 : fs[1]? = some f1
  o1 : f1.offset = 256
  c1 : cellsT P f1.type = some 1
  u25 : P.underlying 25 = some (.slice 41)
  u41 : P.underlying 41 = some (.slice 3)
  c25 : cellsT P 25 = some 1
  c41 : cellsT P 41 = some 1
  c3 : cellsT P 3 = some 1
  a25 : isAggT P 25 = false
  a41 : isAggT P 41 = false

def spCode (r : Nat → Array Oper) : Code :=
  .seq (.region 7 (r 7) false) (.block 0 (.seq (.region 9 (r 9) false) (.cond (.tmp 35) (.region 10 (r 10) false) (.seq (.region 11 (r 11) false) (.cond (.tmp 42) (.region 12 (r 12) false) (.seq (.region 13 (r 13) false) (.cond (.tmp 52) (.region 14 (r 14) false) (.seq (.region 15 (r 15) false) (.cond (.tmp 59) (.region 16 (r 16) true) (.region 8 (r 8) false))))))))))

/-- a question of a switch -/
theorem ask_wp {P : Program} {ops : Array Oper} {id d e : Nat} {p q : Int} {a : Act} {w : World} (hs : ops.size = 2) (p0 : OpIs ops 0 (.binOp .eql 5 (.tmp 32) (.const (.int .u8 q)) 5) (some d)) (p1 : OpIs ops 1 (.assign (.tmp d)) (some e)) (hd : d < a.tmps.size) (he : e < a.tmps.size)
    (hx : a.eval (.tmp 32) = .int .u8 p) (Q : Exit → Act → World → Prop) (hQ : ∀ a1 a2, Puts a d (.bool (decide (p = q))) a1 → Puts a1 e (.bool (decide (p = q))) a2 → Q .normal a2 w) : (Code.region id ops false).wp P Q a w := by
  refine wp_region ?_
  rw [hs]
  show wpOps P ops Q [0, 1] a w
  refine p0.val (fun o ho => ex_eql8 ho hx (ev_const a _)) ?_
  have q0 := puts a (d := d) (.bool (decide (p = q))) hd
  generalize a.put (some d) (.bool (decide (p = q))) = a1 at q0 ⊢
  refine p1.val (fun o ho => ex_assign ho) ?_
  rw [q0.at]
  exact hQ a1 _ q0 (puts a1 _ (by rw [q0.size]; exact he))

theorem good_spoil {R : Type} {C : Ctx} {r : Nat → Array Oper} {fs : Array Field} {f1 : Field} (T : SpT C.P fs f1) (O : SpO r) (hgl : ∀ g, C.glob g = none) {M : Nat} (hM : 112 ≤ M) {how : Int} {l cls : List Int} {rows : List (List Int)} {ends : List Bool} {K : Out → St → Option R} {r0 : R}
    (h0 : 0 < rows.length) (hl : rows.length ≤ 4000000000000000000) (hrow : ∀ i, i < rows.length → 0 < (rows.getD i []).length) (h12 : Int.tmod how 5 = 1 ∨ Int.tmod how 5 = 2)
    (hK : ∀ rows', SpR rows rows' (if Int.tmod how 5 = 1 then rows.length - 1 else 0) (if Int.tmod how 5 = 1 then (rows.length : Int) else -1) → K .norm (placeSt M 0 [4, 11] [.sl (.int .u8) l, .ptr 0 []] (esSp cls rows' ends)) = some r0) :
    GoodN C (spCode r) (placeSt M 0 [3, 4, 11, 12] [.int .u8 how, .sl (.int .u8) l, .ptr 0 [], .int .i64 ((rows.length - 1 : Nat) : Int)] (esSp cls rows ends)) K r0 := by
  intro hep hnp E w0 own0 a w hS hg hR
  have hsize : a.tmps.size = M := by rw [← hR.size]; simp [placeSt, placeL_len]
  have e3 : a.eval (.tmp 3) = .int .u8 how := by
    have q := hR.slot 3
    rw [show (placeSt M 0 [3, 4, 11, 12] [.int .u8 how, .sl (.int .u8) l, .ptr 0 [], .int .i64 ((rows.length - 1 : Nat) : Int)] (esSp cls rows ends)).sl.getD 3 .junk = .int .u8 how from by
      show (((((List.replicate M S.junk).set 3 _).set 4 _).set 11 _).set 12 _).getD 3 .junk = _
      rw [List.getD_eq_getElem?_getD, List.getElem?_set_ne (by omega), List.getElem?_set_ne (by omega), List.getElem?_set_ne (by omega), List.getElem?_set_self (by simp; omega)]; rfl, relV_scalar rfl] at q
    exact (List.cons.inj q.1).1
  have e12 : a.eval (.tmp 12) = .int .i64 ((rows.length - 1 : Nat) : Int) := by
    have q := hR.slot 12
    rw [show (placeSt M 0 [3, 4, 11, 12] [.int .u8 how, .sl (.int .u8) l, .ptr 0 [], .int .i64 ((rows.length - 1 : Nat) : Int)] (esSp cls rows ends)).sl.getD 12 .junk = .int .i64 ((rows.length - 1 : Nat) : Int) from by
      show (((((List.replicate M S.junk).set 3 _).set 4 _).set 11 _).set 12 _).getD 12 .junk = _
      rw [List.getD_eq_getElem?_getD, List.getElem?_set_self (by simp; omega)]; rfl, relV_scalar rfl] at q
    exact (List.cons.inj q.1).1
  have z : 112 ≤ a.tmps.size := by omega
  have hMAX : MAXL = 4611686018427387904 := rfl
  have hlt1 : rows.length - 1 < rows.length := by omega
  have hglE : ∀ g, E.gl g = none := fun g => by rw [hg]; exact hgl g
  -- the end
  have fin : ∀ (rows' : List (List Int)) (a' : Act) (w1 : World), SpR rows rows' (if Int.tmod how 5 = 1 then rows.length - 1 else 0) (if Int.tmod how 5 = 1 then (rows.length : Int) else -1) →
      (∀ tmps : Array Value, tmps.size = a.tmps.size → tmps.getD 4 undef = a.tmps.getD 4 undef → tmps.getD 11 undef = a.tmps.getD 11 undef → RelSt E w0 own0 (placeSt M 0 [4, 11] [.sl (.int .u8) l, .ptr 0 []] (esSp cls rows' ends)) [] tmps w1) →
      a'.tmps.size = a.tmps.size → a'.defers = a.defers → a'.eval (.tmp 4) = a.eval (.tmp 4) → a'.eval (.tmp 11) = a.eval (.tmp 11) →
      ∃ o st', K o st' = some r0 ∧ Exit.normal = outE o ∧ Kept E w0 own0 (placeSt M 0 [3, 4, 11, 12] [.int .u8 how, .sl (.int .u8) l, .ptr 0 [], .int .i64 ((rows.length - 1 : Nat) : Int)] (esSp cls rows ends)) a st' a' w1 :=
    fun rows' a' w1 h1 h2 h3 h4 h5 h6 => ⟨.norm, _, hK rows' h1, rfl, ⟨E, h2 a'.tmps h3 h5 h6, ⟨rfl, rfl, fun k hk => absurd hk (Nat.not_lt_zero k), fun k hk => absurd hk (Nat.not_lt_zero k)⟩⟩, h4, Nat.le_refl _, rfl, by simp [placeSt, placeL_len]⟩
  refine wp_seq (wp_region ?_)
  rw [O.s7]
  show wpOps C.P _ _ [0, 1] a w
  refine O.p70.val (fun o ho => ex_move ho) ?_
  rw [e3]
  have p0 := puts a (d := 31) (.int .u8 how) (by omega)
  generalize a.put (some 31) (.int .u8 how) = a1 at p0 ⊢
  refine O.p71.val (fun o ho => ex_rem8 ho (ev_const a1 _) p0.at) ?_
  have p1 := puts a1 (d := 32) (.int .u8 (Int.tmod how 5)) (by rw [p0.size]; omega)
  generalize a1.put (some 32) (.int .u8 (Int.tmod how 5)) = a2 at p1 ⊢
  show Code.wp _ _ _ a2 w
  refine wp_block (wp_seq (ask_wp O.s9 O.p90 O.p91 (by rw [p1.size, p0.size]; omega) (by rw [p1.size, p0.size]; omega) p1.at _ fun a3 a4 p2 p3 => ?_))
  show Code.wp _ _ _ a4 w
  refine wp_cond_false (p3.at.trans (by rw [decide_eq_false (by omega)])) (wp_seq (ask_wp O.s11 O.p110 O.p111 (by rw [p3.size, p2.size, p1.size, p0.size]; omega) (by rw [p3.size, p2.size, p1.size, p0.size]; omega) (by rw [p3.ne (by omega), p2.ne (by omega)]; exact p1.at) _ fun a5 a6 p4 p5 => ?_))
  show Code.wp _ _ _ a6 w
  have z6 : a6.tmps.size = a.tmps.size := by rw [p5.size, p4.size, p3.size, p2.size, p1.size, p0.size]
  have d6 : a6.defers = a.defers := by rw [p5.df, p4.df, p3.df, p2.df, p1.df, p0.df]
  have k6 : ∀ i : Nat, i < 13 → a6.eval (.tmp i) = a.eval (.tmp i) := fun i hi => by rw [p5.ne (by omega), p4.ne (by omega), p3.ne (by omega), p2.ne (by omega), p1.ne (by omega), p0.ne (by omega)]
  have k6b : a6.eval (.tmp 32) = .int .u8 (Int.tmod how 5) := by rw [p5.ne (by omega), p4.ne (by omega), p3.ne (by omega), p2.ne (by omega)]; exact p1.at
  by_cases hc : Int.tmod how 5 = 1
  · -- the last row's first number leads beyond
    rw [if_pos hc, if_pos hc] at fin
    refine wp_cond_true (p5.at.trans (by rw [decide_eq_true hc])) ?_
    obtain ⟨bd, br, ob, nC, b, o, cap, g11, gN, gR, w1, hrun, rows', hSp, hfin⟩ := sp_store (P := C.P) hM hS hglE hR (i0 := rows.length - 1) (by omega) (hrow _ hlt1) (v := (rows.length : Int)) (inK_len (by omega)) T.c3
    refine wp_region ?_
    rw [O.s12]
    show wpOps C.P _ _ [0, 1, 2, 3, 4, 5, 6, 7, 8] a6 w
    refine O.p120.val (fun o ho => ex_field ho T.hD T.h1 T.c1 (by rw [k6 11 (by omega)]; exact g11)) ?_
    rw [T.o1, Nat.zero_add]
    have x0 := puts a6 (d := 44) (.pointer (some ⟨bd, 256, none⟩)) (by omega)
    generalize a6.put (some 44) (.pointer (some ⟨bd, 256, none⟩)) = b1 at x0 ⊢
    refine O.p121.val (fun o ho => ex_load ho x0.at T.c25 T.a25 gN) ?_
    have x1 := puts b1 (d := 45) (.slice (some ⟨br, ob, none⟩) rows.length nC) (by rw [x0.size]; omega)
    generalize b1.put (some 45) (.slice (some ⟨br, ob, none⟩) rows.length nC) = b2 at x1 ⊢
    refine O.p122.val (fun o ho => ex_move ho) ?_
    rw [x1.ne (by omega), x0.ne (by omega), k6 12 (by omega), e12]
    have x2 := puts b2 (d := 46) (.int .i64 ((rows.length - 1 : Nat) : Int)) (by rw [x1.size, x0.size]; omega)
    generalize b2.put (some 46) (.int .i64 ((rows.length - 1 : Nat) : Int)) = b3 at x2 ⊢
    refine O.p123.val (fun o ho => ex_index (n := rows.length - 1) ho T.u25 T.c41 (show rows.length - 1 < rows.length from by omega) (by rw [x2.ne (by omega)]; exact x1.at) x2.at) ?_
    have x3 := puts b3 (d := 47) (.pointer (some ⟨br, ob + (rows.length - 1) * 1, none⟩)) (by rw [x2.size, x1.size, x0.size]; omega)
    generalize b3.put (some 47) (.pointer (some ⟨br, ob + (rows.length - 1) * 1, none⟩)) = b4 at x3 ⊢
    refine O.p124.val (fun o ho => ex_load ho x3.at T.c41 T.a41 gR) ?_
    have x4 := puts b4 (d := 48) (.slice (some ⟨b, o, none⟩) (rows.getD (rows.length - 1) []).length cap) (by rw [x3.size, x2.size, x1.size, x0.size]; omega)
    generalize b4.put (some 48) (.slice (some ⟨b, o, none⟩) (rows.getD (rows.length - 1) []).length cap) = b5 at x4 ⊢
    refine O.p125.val (fun o ho => ex_move ho) ?_
    rw [x4.ne (by omega), x3.ne (by omega), x2.ne (by omega), x1.ne (by omega), x0.ne (by omega), k6 12 (by omega), e12]
    have x5 := puts b5 (d := 49) (.int .i64 ((rows.length - 1 : Nat) : Int)) (by rw [x4.size, x3.size, x2.size, x1.size, x0.size]; omega)
    generalize b5.put (some 49) (.int .i64 ((rows.length - 1 : Nat) : Int)) = b6 at x5 ⊢
    refine O.p126.val (fun o ho => ex_add ho x5.at (ev_const b6 _)) ?_
    rw [wi64 (rows.length - 1) (by omega), show rows.length - 1 + 1 = rows.length by omega]
    have x6 := puts b6 (d := 50) (.int .i64 ((rows.length : Nat) : Int)) (by rw [x5.size, x4.size, x3.size, x2.size, x1.size, x0.size]; omega)
    generalize b6.put (some 50) (.int .i64 ((rows.length : Nat) : Int)) = b7 at x6 ⊢
    refine O.p127.val (fun o ho => ex_index (n := 0) ho T.u41 T.c3 (hrow _ hlt1) (by rw [x6.ne (by omega), x5.ne (by omega)]; exact x4.at) (ev_const b7 _)) ?_
    have x7 := puts b7 (d := 51) (.pointer (some ⟨b, o + 0 * 1, none⟩)) (by rw [x6.size, x5.size, x4.size, x3.size, x2.size, x1.size, x0.size]; omega)
    generalize b7.put (some 51) (.pointer (some ⟨b, o + 0 * 1, none⟩)) = b8 at x7 ⊢
    refine O.p128.skip (fun o ho => hrun _ o _ _ ho x7.at (by rw [x7.ne (by omega)]; exact x6.at)) ?_
    have hput0 : (b8.put none undef) = b8 := rfl
    rw [hput0]
    have kb : ∀ i : Nat, i < 13 → b8.eval (.tmp i) = a.eval (.tmp i) := fun i hi => by rw [x7.ne (by omega), x6.ne (by omega), x5.ne (by omega), x4.ne (by omega), x3.ne (by omega), x2.ne (by omega), x1.ne (by omega), x0.ne (by omega)]; exact k6 i hi
    exact fin rows' b8 w1 hSp hfin (by rw [x7.size, x6.size, x5.size, x4.size, x3.size, x2.size, x1.size, x0.size, z6]) (by rw [x7.df, x6.df, x5.df, x4.df, x3.df, x2.df, x1.df, x0.df, d6]) (kb 4 (by omega)) (kb 11 (by omega))
  · have hc2 : Int.tmod how 5 = 2 := by omega
    rw [if_neg hc, if_neg hc] at fin
    refine wp_cond_false (p5.at.trans (by rw [decide_eq_false hc])) (wp_seq (ask_wp O.s13 O.p130 O.p131 (by rw [z6]; omega) (by rw [z6]; omega) k6b _ fun a7 a8 p6 p7 => ?_))
    show Code.wp _ _ _ a8 w
    have z8 : a8.tmps.size = a.tmps.size := by rw [p7.size, p6.size, z6]
    have d8 : a8.defers = a.defers := by rw [p7.df, p6.df, d6]
    have k8 : ∀ i : Nat, i < 13 → a8.eval (.tmp i) = a.eval (.tmp i) := fun i hi => by rw [p7.ne (by omega), p6.ne (by omega)]; exact k6 i hi
    refine wp_cond_true (p7.at.trans (by rw [decide_eq_true hc2])) ?_
    obtain ⟨bd, br, ob, nC, b, o, cap, g11, gN, gR, w1, hrun, rows', hSp, hfin⟩ := sp_store (P := C.P) hM hS hglE hR (i0 := 0) h0 (hrow _ h0) (v := -1) (by decide) T.c3
    refine wp_region ?_
    rw [O.s14]
    show wpOps C.P _ _ [0, 1, 2, 3, 4, 5] a8 w
    refine O.p140.val (fun o ho => ex_field ho T.hD T.h1 T.c1 (by rw [k8 11 (by omega)]; exact g11)) ?_
    rw [T.o1, Nat.zero_add]
    have x0 := puts a8 (d := 54) (.pointer (some ⟨bd, 256, none⟩)) (by omega)
    generalize a8.put (some 54) (.pointer (some ⟨bd, 256, none⟩)) = b1 at x0 ⊢
    refine O.p141.val (fun o ho => ex_load ho x0.at T.c25 T.a25 gN) ?_
    have x1 := puts b1 (d := 55) (.slice (some ⟨br, ob, none⟩) rows.length nC) (by rw [x0.size]; omega)
    generalize b1.put (some 55) (.slice (some ⟨br, ob, none⟩) rows.length nC) = b2 at x1 ⊢
    refine O.p142.val (fun o ho => ex_index (n := 0) ho T.u25 T.c41 h0 x1.at (ev_const b2 _)) ?_
    have x3 := puts b2 (d := 56) (.pointer (some ⟨br, ob + 0 * 1, none⟩)) (by rw [x1.size, x0.size]; omega)
    generalize b2.put (some 56) (.pointer (some ⟨br, ob + 0 * 1, none⟩)) = b4 at x3 ⊢
    refine O.p143.val (fun o ho => ex_load ho x3.at T.c41 T.a41 gR) ?_
    have x4 := puts b4 (d := 57) (.slice (some ⟨b, o, none⟩) (rows.getD 0 []).length cap) (by rw [x3.size, x1.size, x0.size]; omega)
    generalize b4.put (some 57) (.slice (some ⟨b, o, none⟩) (rows.getD 0 []).length cap) = b5 at x4 ⊢
    refine O.p144.val (fun o ho => ex_index (n := 0) ho T.u41 T.c3 (hrow _ h0) x4.at (ev_const b5 _)) ?_
    have x7 := puts b5 (d := 58) (.pointer (some ⟨b, o + 0 * 1, none⟩)) (by rw [x4.size, x3.size, x1.size, x0.size]; omega)
    generalize b5.put (some 58) (.pointer (some ⟨b, o + 0 * 1, none⟩)) = b8 at x7 ⊢
    refine O.p145.skip (fun o ho => hrun _ o _ _ ho x7.at (ev_const b8 _)) ?_
    have hput0 : (b8.put none undef) = b8 := rfl
    rw [hput0]
    have kb : ∀ i : Nat, i < 13 → b8.eval (.tmp i) = a.eval (.tmp i) := fun i hi => by rw [x7.ne (by omega), x4.ne (by omega), x3.ne (by omega), x1.ne (by omega), x0.ne (by omega)]; exact k8 i hi
    exact fin rows' b8 w1 hSp hfin (by rw [x7.size, x4.size, x3.size, x1.size, x0.size, z8]) (by rw [x7.df, x4.df, x3.df, x1.df, x0.df, d8]) (kb 4 (by omega)) (kb 11 (by omega))
end Go.Ab
