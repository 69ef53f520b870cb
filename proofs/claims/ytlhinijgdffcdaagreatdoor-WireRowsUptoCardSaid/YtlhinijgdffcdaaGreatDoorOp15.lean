/- Maps. -/
import Derived.Test.YtlhinijgdffcdaaGreatDoorOp14
namespace Go.Ab
open Go
set_option linter.unusedVariables false
set_option linter.unusedSimpArgs false
mutual
theorem lower_own {tb : Tbl} : ∀ {s : S} {t : Ty} {x : t.den}, lower tb s t = some x → ∀ k ∈ ownKeys s, ∃ e xs fz, tb k = some (.buf e xs fz)
  | .own u k, t, x, hl => by
    cases t <;> simp [lower] at hl
    split at hl <;> try contradiction
    rename_i e' xs fz htk
    intro j hj
    simp [ownKeys] at hj; subst hj
    exact ⟨_, _, _, htk⟩
  | .twn u k n, t, x, hl => by
    cases t <;> simp [lower] at hl
    split at hl <;> try contradiction
    rename_i e' xs fz htk
    intro j hj
    simp [ownKeys] at hj; subst hj
    exact ⟨_, _, _, htk⟩
  | .st fs, t, x, hl => by
    cases t with
    | rose a =>
      simp only [lower] at hl
      split at hl <;> try contradiction
      rename_i y hy
      simp only [ownKeys]; exact lowerR_own hy
    | _ =>
      simp only [lower] at hl
      simp only [ownKeys]; exact lowerL_own hl
  | .int .., t, x, hl | .err _, t, x, hl | .bool _, t, x, hl | .str _, t, x, hl | .sl .., t, x, hl | .nilsl, t, x, hl | .arr .., t, x, hl => by simp [ownKeys]
  | .junk, t, x, hl | .ptr .., t, x, hl | .nilp, t, x, hl | .iref .., t, x, hl | .gptr .., t, x, hl
  | .fn .., t, x, hl | .nilfn, t, x, hl | .iface .., t, x, hl | .nili, t, x, hl | .mp _, t, x, hl | .nilmp, t, x, hl | .tup _, t, x, hl => by
    simp [lower] at hl
theorem lowerR_own {tb : Tbl} : ∀ {l : List S} {t r : Ty} {x : t.den × List r.den}, lowerR tb l t r = some x → ∀ k ∈ ownKeysL l, ∃ e xs fz, tb k = some (.buf e xs fz)
  | [], t, r, x, hl => by simp [lowerR] at hl
  | [f], .unit, r, x, hl => by
    simp only [lowerR] at hl
    split at hl <;> try contradiction
    rename_i ks h1
    intro k hk
    simp only [ownKeysL, List.append_nil] at hk
    exact lower_own h1 k hk
  | f :: q, .pair a b, r, x, hl => by
    simp only [lowerR] at hl
    split at hl <;> try contradiction
    rename_i y z h1 h2
    intro k hk
    simp only [ownKeysL, List.mem_append] at hk
    rcases hk with hk | hk
    · exact lower_own h1 k hk
    · exact lowerR_own h2 k hk
  | f :: g :: q, .unit, r, x, hl => by simp [lowerR] at hl
  | f :: q, .int _, r, x, hl | f :: q, .nw _, r, x, hl | f :: q, .bool, r, x, hl | f :: q, .str, r, x, hl | f :: q, .slice _, r, x, hl | f :: q, .arr _ _, r, x, hl | f :: q, .rose _, r, x, hl | f :: q, .err, r, x, hl => by simp [lowerR] at hl
theorem lowerL_own {tb : Tbl} : ∀ {l : List S} {t : Ty} {x : t.den}, lowerL tb l t = some x → ∀ k ∈ ownKeysL l, ∃ e xs fz, tb k = some (.buf e xs fz)
  | [], t, x, hl => by simp [ownKeysL]
  | f :: r, t, x, hl => by
    cases t <;> simp [lowerL] at hl
    split at hl <;> try contradiction
    rename_i y z h1 h2
    intro k hk
    simp only [ownKeysL, List.mem_append] at hk
    rcases hk with hk | hk
    · exact lower_own h1 k hk
    · exact lowerL_own h2 k hk
end
def KeyIs (d : TypeDesc) (kt : Ty) (v : Value) (a : kt.den) : Prop :=
  match kt, a with
  | .int k, n => d = .int k ∧ v = .int k n
  | .str, s => d = .string ∧ ∃ bs, v = .string bs ∧ s = bytesL bs
  | _, _ => False
theorem tyOf_key {P : Program} {t : TypeId} {kt : Ty} (h : tyOf P FUEL t = some kt) (hk : keyTy kt = true) :
    ∃ d, P.underlying t = some d ∧ ((∃ k, kt = .int k ∧ d = .int k) ∨ (kt = .str ∧ d = .string)) := by
  unfold FUEL at h
  unfold tyOf at h
  split at h
  all_goals try contradiction
  · rename_i k hu; cases h; exact ⟨_, hu, .inl ⟨k, rfl, rfl⟩⟩
  · cases h; simp [keyTy] at hk
  · rename_i hu; cases h; exact ⟨_, hu, .inr ⟨rfl, rfl⟩⟩
  · rename_i e _; cases he : tyOf P 39 e <;> simp [he] at h; subst h; simp [keyTy] at hk
  · rename_i n e _; cases he : tyOf P 39 e <;> simp [he] at h; subst h; simp [keyTy] at hk
  · rename_i fs _
    exfalso
    have : ∀ n l t, tyFs P n l = some t → keyTy t = false := by
      intro n l t ht
      cases n with
      | zero => simp [tyFs] at ht
      | succ n =>
        cases l with
        | nil => simp [tyFs] at ht; subst ht; rfl
        | cons f r =>
          simp only [tyFs] at ht
          split at ht <;> try contradiction
          cases ht; rfl
    split at h
    · rename_i q _
      cases hq : tyFs P 39 q with
      | none => simp [hq] at h
      | some z => simp [hq] at h; subst h; simp [keyTy] at hk
    · rw [this _ _ _ h] at hk; cases hk
  · split at h
    · cases h
    · cases h; simp [keyTy] at hk
theorem rt_key {w : World} {ok : Ty → Nat → Prop} {d : TypeDesc} {kt : Ty} {v : Value} {a : kt.den} (hd : (∃ k, kt = .int k ∧ d = .int k) ∨ (kt = .str ∧ d = .string)) (h : Rt w ok kt [v] a) : KeyIs d kt v a := by
  rcases hd with ⟨k, rfl, rfl⟩ | ⟨rfl, rfl⟩
  · exact ⟨rfl, (List.cons.inj h.1).1⟩
  · obtain ⟨bs, h1, h2, _⟩ := h; exact ⟨rfl, bs, (List.cons.inj h1).1, h2⟩
theorem sameNow_key {d : TypeDesc} {kt : Ty} {u v : Value} {a b : kt.den} (h : KeyIs d kt u a) (k : KeyIs d kt v b) : Instr.sameNow d u v = some (eqK kt a b) := by
  unfold KeyIs at h k
  cases kt <;> simp only at h k
  · obtain ⟨rfl, rfl⟩ := h
    obtain ⟨_, rfl⟩ := k
    simp only [Instr.sameNow, eqK, if_true]
    rfl
  · obtain ⟨rfl, bs, rfl, rfl⟩ := h
    obtain ⟨_, cs, rfl, rfl⟩ := k
    simp only [Instr.sameNow, eqK]
    congr 1
    rw [Bool.eq_iff_iff]
    simp only [decide_eq_true_eq, bytesL_eq]
    rw [beq_toListBytes]; simp
def mplace {α β : Type} (eq : α → α → Bool) : List (α × β) → α → Option Nat
  | [], _ => none
  | (a, _) :: r, k => bif eq k a then some 0 else (mplace eq r k).map (· + 1)
theorem findNow_rel {w : World} {ok : Ty → Nat → Prop} {d : TypeDesc} {kt vt : Ty} {u : Value} {a : kt.den} (hd : (∃ k, kt = .int k ∧ d = .int k) ∨ (kt = .str ∧ d = .string)) (hu : KeyIs d kt u a) :
    ∀ {es : List MapEntry} {m : List (kt.den × vt.den)} (i : Nat), RelM w ok kt vt es m →
      (mfind (eqK kt) m a = none ∧ mplace (eqK kt) m a = none ∧ Instr.findNow d u es i = some none) ∨
      ∃ b j v, mfind (eqK kt) m a = some b ∧ mplace (eqK kt) m a = some j ∧ Instr.findNow d u es i = some (some (i + j, v)) ∧ RtV w ok vt v b ∧ j < es.length ∧ ∃ e a', es[j]? = some e ∧ KeyIs d kt e.key a' ∧ eqK kt a a' = true
  | [], m, i, h => by cases h; exact .inl ⟨rfl, rfl, rfl⟩
  | e :: r, m, i, h => by
    obtain ⟨a', b, q, rfl, h1, h2, h3⟩ := h
    have hk := rt_key hd h1
    have hs := sameNow_key hu hk
    simp only [mfind, mplace, Instr.findNow, hs]
    cases he : eqK kt a a' with
    | true => exact .inr ⟨b, 0, e.val, rfl, rfl, rfl, h2, by simp, e, a', rfl, hk, he⟩
    | false =>
      rcases findNow_rel hd hu (i + 1) h3 with ⟨q1, q2, q3⟩ | ⟨b', j, v, q1, q2, q3, q4, q5, e2, a2, q6, q7, q8⟩
      · exact .inl ⟨q1, by simp [q2], q3⟩
      · exact .inr ⟨b', j + 1, v, q1, by simp [q2], by simp only [q3]; congr 3; omega, q4, by simp; omega, e2, a2, by simpa using q6, q7, q8⟩
theorem mput_some {α β : Type} (eq : α → α → Bool) (k : α) (v : β) : ∀ (m : List (α × β)) (j : Nat), mplace eq m k = some j → mput eq m k v = m.set j (k, v)
  | [], j, h => by simp [mplace] at h
  | (a, b) :: r, j, h => by
    simp only [mplace] at h
    simp only [mput]
    cases he : eq k a with
    | true => simp [he] at h; subst h; simp
    | false =>
      simp [he] at h
      obtain ⟨j', h1, rfl⟩ := h
      simp [mput_some eq k v r j' h1]
theorem mput_none {α β : Type} (eq : α → α → Bool) (k : α) (v : β) : ∀ (m : List (α × β)), mplace eq m k = none → mput eq m k v = m ++ [(k, v)]
  | [], h => rfl
  | (a, b) :: r, h => by
    simp only [mplace] at h
    simp only [mput]
    cases he : eq k a with
    | true => simp [he] at h
    | false =>
      simp [he] at h
      simp [mput_none eq k v r h]
theorem RelM.set {w : World} {ok : Ty → Nat → Prop} {kt vt : Ty} {e' : MapEntry} {a : kt.den} {b : vt.den} (hk : Rt w ok kt [e'.key] a) (hv : RtV w ok vt e'.val b) :
    ∀ {es : List MapEntry} {m : List (kt.den × vt.den)} {j : Nat}, RelM w ok kt vt es m → RelM w ok kt vt (es.set j e') (m.set j (a, b))
  | [], m, j, h => by cases h; exact rfl
  | e :: r, m, 0, h => by
    obtain ⟨a', b', q, rfl, h1, h2, h3⟩ := h
    exact ⟨a, b, q, rfl, hk, hv, h3⟩
  | e :: r, m, j + 1, h => by
    obtain ⟨a', b', q, rfl, h1, h2, h3⟩ := h
    exact ⟨a', b', q.set j (a, b), rfl, h1, h2, RelM.set hk hv h3⟩
theorem RelM.snoc {w : World} {ok : Ty → Nat → Prop} {kt vt : Ty} {e' : MapEntry} {a : kt.den} {b : vt.den} (hk : Rt w ok kt [e'.key] a) (hv : RtV w ok vt e'.val b) :
    ∀ {es : List MapEntry} {m : List (kt.den × vt.den)}, RelM w ok kt vt es m → RelM w ok kt vt (es ++ [e']) (m ++ [(a, b)])
  | [], m, h => by cases h; exact ⟨a, b, [], rfl, hk, hv, rfl⟩
  | e :: r, m, h => by
    obtain ⟨a', b', q, rfl, h1, h2, h3⟩ := h
    exact ⟨a', b', q ++ [(a, b)], rfl, h1, h2, RelM.snoc hk hv h3⟩
theorem run_checkKey {P : Program} {w : World} {t : TypeId} {d : TypeDesc} {v : Value} (hu : P.underlying t = some d) (hd : d = .string ∨ ∃ k, d = .int k) (empty : Bool) (n : Nat) : (Instr.checkKey empty (n + 1) t v).run P w = .ok () w := by
  rcases hd with rfl | ⟨k, rfl⟩ <;> (unfold Instr.checkKey; simp [run_underlying hu])
theorem sameBits_key {d : TypeDesc} {kt : Ty} {u v : Value} {a b : kt.den} (h : KeyIs d kt u a) (k : KeyIs d kt v b) (he : eqK kt a b = true) (n : Nat) : Instr.sameBits (n + 1) v u = true := by
  unfold KeyIs at h k
  cases kt <;> simp only at h k
  · obtain ⟨rfl, rfl⟩ := h
    obtain ⟨_, rfl⟩ := k
    simp only [eqK, decide_eq_true_eq] at he
    simp [Instr.sameBits, he]
  · obtain ⟨rfl, bs, rfl, rfl⟩ := h
    obtain ⟨_, cs, rfl, rfl⟩ := k
    simp only [eqK, decide_eq_true_eq, bytesL_eq] at he
    simp only [Instr.sameBits]
    rw [beq_toListBytes]; simp [he]
section
variable {E : Env} {w0 : World} {own0 : Nat → Bool → Prop} {st : St} {D : List Nat} {a : Act} {w : World} {C : Ctx} {o : Oper} {i : Nat} {r : OpR}
theorem lift_agg : ∀ (t : Ty) (x y : t.den), (lift t x).isAgg = (lift t y).isAgg := by intro t x y; cases t <;> rfl
theorem rtV_relV {E : Env} {tb : Tbl} {w : World} {vt : Ty} {v : Value} {b : vt.den} (h : RtV w (E.ok tb) vt v b) : RelV E tb w (lift vt b) v := by
  unfold RtV at h
  unfold RelV
  rw [lift_agg vt b vt.zero]
  split
  · rename_i ha; rw [if_pos ha] at h; obtain ⟨a, h1, h2⟩ := h; exact ⟨a, h1, Rt.lift h2⟩
  · rename_i ha; rw [if_neg ha] at h; exact Rt.lift h
theorem key_lower {x : Operand} {kt : Ty} {a' : kt.den} (hR : RelSt E w0 own0 st D a.tmps w) (hk : keyTy kt = true) (h : lower st.tb (evalS st.sl x) kt = some a') :
    ∀ (w' : World) (ok : Ty → Nat → Prop), Rt w' ok kt [a.eval x] a' := by
  have hx := hR.eval x
  intro w' ok
  cases kt <;> simp [keyTy] at hk
  · cases hs : evalS st.sl x <;> rw [hs] at h hx <;> simp [lower] at h
    · obtain ⟨rfl, rfl⟩ := h
      obtain ⟨hv, hn⟩ := relV_int.1 hx
      exact ⟨by rw [hv], hn⟩
    · rename_i fs
      cases fs <;> simp [lowerL] at h
  · cases hs : evalS st.sl x <;> rw [hs] at h hx <;> simp [lower] at h
    · subst h
      obtain ⟨bs, hv, h1, h2⟩ := relV_str.1 hx
      exact ⟨bs, by rw [hv], h1, h2⟩
    · rename_i fs
      cases fs <;> simp [lowerL] at h
theorem run_findKey {P : Program} {t : TypeId} {d : TypeDesc} {u : Value} {es : List MapEntry} {x : Option (Nat × Value)} (hu : P.underlying t = some d) (h : Instr.findNow d u es 0 = some x) : (Instr.findKey t u es).run P w = .ok x w := by
  unfold Instr.findKey
  simp [run_underlying hu, h]
theorem opS_lookup {t : TypeId} {m k : Operand} {okk : Bool} (hR : RelSt E w0 own0 st D a.tmps w) (ho : o.op = .lookup t m k okk)
    (h : opS C o st.ep i (evalS st.sl) st.tb = some r) : OpGood C.P E w0 own0 st D i o r.v r.ef a w := by
  have hd := opS_lt h
  have hm := hR.eval m
  unfold opS at h
  rw [ho] at h
  simp only [hd, decide_true, Bool.not_true, Bool.false_eq_true, if_false] at h
  split at h <;> try contradiction
  rename_i key kT vT hs hu
  split at h <;> try contradiction
  rename_i kt vt es fz he
  split at h <;> try contradiction
  rename_i a' hlow
  split at h <;> try contradiction
  rename_i hc
  simp only [Bool.and_eq_true, decide_eq_true_eq] at hc
  obtain ⟨⟨⟨hc1, hc2⟩, hc3⟩, hc4⟩ := hc
  rw [hs, relV_scalar rfl] at hm
  simp only [Rel, he] at hm
  obtain ⟨b, hκ, hmv⟩ := hm
  have hmv := (List.cons.inj hmv).1
  obtain ⟨b', ces, clock, hκ', hnav, hheap, hrel⟩ := hR.ent key _ he
  rw [hκ] at hκ'; cases hκ'
  obtain ⟨d, hud, hdk⟩ := tyOf_key hc1 hc2
  have hkey := key_lower hR hc2 hlow w (E.ok st.tb)
  have hki := rt_key hdk hkey
  have hd2 : d = .string ∨ ∃ k, d = .int k := by
    rcases hdk with ⟨k, _, h⟩ | ⟨_, h⟩
    · exact .inr ⟨k, h⟩
    · exact .inl h
  have hck := run_checkKey (P := C.P) (w := w) (v := a.eval k) hud hd2 ces.isEmpty 9999
  obtain ⟨inf, z, hinf, hz, hzz, _⟩ := elemC_spec hc3
  have hzr : (zeroValue vT).run C.P w = .ok z w := by
    unfold zeroValue typeInfo
    simp only [Sem.run_bind, run_program, Result.andThen_ok, hinf, Sem.run_pure, hz]
  have hzv : RtV w (E.ok st.tb) vt z vt.zero := by
    unfold zeroForm at hc4
    simp only [hinf, Option.bind_some, hz] at hc4
    unfold RtV
    have hrt : Rt w (E.ok st.tb) vt z.cells.toList vt.zero := isZ_rt hzz
    cases z
    case agg cs => rw [if_pos (by simpa using hc4)]; exact ⟨cs, rfl, hrt⟩
    all_goals (simp only [Bool.not_eq_true'] at hc4; rw [hc4]; simp only [Bool.false_eq_true, if_false]; exact hrt)
  have main : ∃ v, (∀ x, Instr.findNow d (a.eval k) ces.toList 0 = some x → (match x with
      | some (_, v) => pure (v, true)
      | none => (do pure (← zeroValue vT, false)) : Sem (Value × Bool)).run C.P w = .ok (v, (mfind (eqK kt) es a').isSome) w) ∧ RtV w (E.ok st.tb) vt v ((mfind (eqK kt) es a').getD vt.zero) ∧ ∃ x, Instr.findNow d (a.eval k) ces.toList 0 = some x := by
    rcases findNow_rel hdk hki 0 hrel with ⟨q1, q2, q3⟩ | ⟨b2, j, v, q1, q2, q3, q4, _⟩
    · refine ⟨z, fun x hx => ?_, by rw [q1]; exact hzv, _, q3⟩
      rw [q3] at hx; cases hx
      rw [q1]; simp [hzr]
    · refine ⟨v, fun x hx => ?_, by rw [q1]; exact q4, _, q3⟩
      rw [q3] at hx; cases hx
      rw [q1]; simp
  obtain ⟨v, hv1, hv2, x, hx⟩ := main
  have hfk := run_findKey (P := C.P) (w := w) hud hx
  have hrun : (execOp a.eval o).run C.P w = .ok (.value (if okk then .tuple #[v, .bool (mfind (eqK kt) es a').isSome] else v)) w := by
    unfold execOp; rw [ho]
    have hvx := hv1 x hx
    have hgo : (getObj b).run C.P w = .ok (.map ces clock) w := by simp [getObj, Sem.run, hheap]
    simp only [Instr.lookup, Sem.run_bind, run_underlying hu, Result.andThen_ok, hmv, hgo, Sem.run_pure, hck, hfk]
    cases x with
    | none => simp only [Sem.run_bind, hzr, Result.andThen_ok, Sem.run_pure, Result.ok.injEq, Prod.mk.injEq, and_true] at hvx ⊢
              obtain ⟨rfl, h2⟩ := hvx
              rw [h2]; try (cases okk <;> rfl)
    | some p => obtain ⟨n, u⟩ := p
                simp only [Sem.run_pure, Result.ok.injEq, Prod.mk.injEq, and_true] at hvx ⊢
                obtain ⟨rfl, h2⟩ := hvx
                rw [← h2]; cases okk <;> rfl
  cases okk with
  | true =>
    simp only [if_true, ok, Option.some.injEq] at h; subst h
    refine OpGood.value hR hrun ?_ (by simp [keysOf, keysOfL, lift_keys])
    rw [relV_scalar rfl]
    refine ⟨[v, .bool (mfind (eqK kt) es a').isSome], rfl, v, _, rfl, rtV_relV hv2, _, [], rfl, ?_, rfl⟩
    simp [S.isAgg, Rel]
  | false =>
    simp only [Bool.false_eq_true, if_false, ok, Option.some.injEq] at h; subst h
    exact OpGood.value hR hrun (rtV_relV hv2) (by simp [lift_keys])
theorem opS_mapUpdate {t : TypeId} {m k v : Operand} (hR : RelSt E w0 own0 st D a.tmps w) (hi : i ∉ D) (ho : o.op = .mapUpdate t m k v ∨ o.op = .insert t m k v)
    (h : opS C o st.ep i (evalS st.sl) st.tb = some r) : OpGood C.P E w0 own0 st D i o r.v r.ef a w := by
  have hd := opS_lt h
  have hm := hR.eval m
  have hv := hR.eval v
  have h : mapUpdS C st.tb t (evalS st.sl m) (evalS st.sl k) (evalS st.sl v) = some r := by
    unfold opS at h
    rcases ho with ho | ho <;> (rw [ho] at h; simpa only [hd, decide_true, Bool.not_true, Bool.false_eq_true, if_false] using h)
  unfold mapUpdS at h
  split at h <;> try contradiction
  rename_i key kT vT hs hu
  split at h <;> try contradiction
  rename_i kt vt es he
  split at h <;> try contradiction
  rename_i a' b' hlow hlowv
  split at h <;> try contradiction
  rename_i hc
  simp only [Bool.and_eq_true, decide_eq_true_eq, beq_iff_eq] at hc
  obtain ⟨⟨hc1, hc2⟩, hc3⟩ := hc
  simp only [Option.some.injEq] at h; subst h
  rw [hs, relV_scalar rfl] at hm
  simp only [Rel, he] at hm
  obtain ⟨b, hκ, hmv⟩ := hm
  have hmv := (List.cons.inj hmv).1
  obtain ⟨bb, ces, clock, hκ', hnav, hheap, hrel⟩ := hR.ent key _ he
  rw [hκ] at hκ'; cases hκ'
  obtain ⟨d, hud, hdk⟩ := tyOf_key hc1 hc2
  have hkey := key_lower hR hc2 hlow
  have hki := rt_key hdk (hkey w (E.ok st.tb))
  have hd2 : d = .string ∨ ∃ k, d = .int k := by
    rcases hdk with ⟨k, _, h⟩ | ⟨_, h⟩
    · exact .inr ⟨k, h⟩
    · exact .inl h
  have hck := run_checkKey (P := C.P) (w := w) (v := a.eval k) hud hd2 false 9999
  have hbl : b < w.heap.size := (hR.ent key _ he).lt hκ
  have hkt : key / 64 ≠ st.ep * 4096 + i := (hR.keyT key _ he).notFresh hi hd
  have hgo : (getObj b).run C.P w = .ok (.map ces clock) w := by simp [getObj, Sem.run, hheap]
  have hset : ∀ ob, (setObj b ob).run C.P w = .ok () { w with heap := w.heap.setIfInBounds b ob } := by intro ob; simp [setObj, Sem.run, hheap]
  have hnk : key ∉ ownKeys (evalS st.sl v) := by
    intro hk
    obtain ⟨e1, x1, f1, h1⟩ := lower_own hlowv key hk
    rw [he] at h1; cases h1
  have mach : ∃ nes nclock, (execOp a.eval o).run C.P w = .ok .skip { w with heap := w.heap.setIfInBounds b (.map nes nclock) } ∧
      ∀ (w' : World) (ok : Ty → Nat → Prop), RelM w' ok kt vt ces.toList es → RtV w' ok vt (a.eval v) b' → RelM w' ok kt vt nes.toList (mput (eqK kt) es a' b') := by
    rcases findNow_rel hdk hki 0 hrel with ⟨q1, q2, q3⟩ | ⟨b2, j, vv, q1, q2, q3, q4, q5, e2, a2, q6, q7, q8⟩
    · refine ⟨ces.push { key := a.eval k, val := a.eval v, born := clock }, clock + 1, ?_, fun w' ok hm hv' => ?_⟩
      · have hfk := run_findKey (P := C.P) (w := w) hud q3
        unfold execOp
        rcases ho with ho | ho <;> (rw [ho]; simp only [Instr.mapUpdate, Sem.run_bind, run_underlying hu, Result.andThen_ok, hmv, hgo, hck, hfk, hset, Sem.run_pure])
      · rw [mput_none _ _ _ _ q2, Array.toList_push]
        exact RelM.snoc (hkey w' ok) hv' hm
    · rw [Nat.zero_add] at q3
      have hj : j < ces.size := by simpa using q5
      have hej : ces[j]? = some e2 := by rw [← Array.getElem?_toList]; exact q6
      have hsb : Instr.sameBits 10000 e2.key (a.eval k) = true := sameBits_key hki q7 q8 9999
      refine ⟨ces.modify j fun e => { e with key := a.eval k, val := a.eval v }, clock, ?_, fun w' ok hm hv' => ?_⟩
      · have hfk := run_findKey (P := C.P) (w := w) hud q3
        unfold execOp
        rcases ho with ho | ho <;> (rw [ho]; simp only [Instr.mapUpdate, Sem.run_bind, run_underlying hu, Result.andThen_ok, hmv, hgo, hck, hfk, hej, Option.map_some, Option.getD_some, Instr.keyThatStays, hsb, if_true, hset, Sem.run_pure])
      · rw [mput_some _ _ _ _ j q2]
        have : (ces.modify j fun e => { e with key := a.eval k, val := a.eval v }).toList = ces.toList.set j { e2 with key := a.eval k, val := a.eval v } := by
          apply List.ext_getElem?
          intro p
          rw [Array.getElem?_toList, Array.getElem?_modify, List.getElem?_set, Array.getElem?_toList]
          by_cases hp : j = p
          · subst hp
            have hce : ces[j] = e2 := by rw [Array.getElem?_eq_getElem hj] at hej; exact Option.some.inj hej
            simp [hej, q5, hj, hce]
          · simp [hp]
        rw [this]
        exact RelM.set (e' := { e2 with key := a.eval k, val := a.eval v }) (hkey w' ok) hv' hm
  obtain ⟨nes, nclock, hrun, hmm⟩ := mach
  have hblk : ∀ b', b' ≠ b → ({ w with heap := w.heap.setIfInBounds b (.map nes nclock) } : World).heap[b']? = w.heap[b']? := fun b' hb' => by simp [Array.getElem?_setIfInBounds_ne (Ne.symm hb')]
  refine target_good (C := C) (w' := { w with heap := w.heap.setIfInBounds b (.map nes nclock) }) (ent := .map kt vt es false) (u := undef) hR hi hd he rfl hκ (by simp) rfl rfl rfl hblk ?_ ?_ trivial (.inr ⟨hrun, rfl⟩) ⟨rfl, rfl, fun _ _ => ⟨_, rfl⟩⟩ ?_
  · intro o'
    constructor
    · intro h
      unfold World.cell? at h
      simp [hheap] at h
    · intro h
      unfold World.cell? at h
      simp [hbl] at h
  · intro q hq
    obtain ⟨h1, e, h2, h3⟩ := freezes_mem (tb := st.tb) (k := q.1) (x := q.2) hq
    exact .inr ⟨fun h => by rw [h] at h1; exact hnk h1, e, h2, h3⟩
  · intro M
    refine ⟨⟨b, nes, nclock, (upd_old hkt).trans hκ, hnav, by simp [hbl], hmm _ _ (RelM.moves M hrel) ?_⟩, by simp [Ent.keys]⟩
    have hgone : ∀ m', m' ≠ key → st.tb.sets (freezes st.tb (ownKeys (evalS st.sl v)) ++ [(key, some (.map kt vt (mput (eqK kt) es a' b') false))]) m' = st.tb.sets (freezes st.tb (ownKeys (evalS st.sl v))) m' := by
      intro m' hm'; rw [sets_append]; exact set_ne _ hm' _
    have hfrz : ∀ j ∈ ownKeys (evalS st.sl v), ∀ e p, st.tb j = some e → E.κ j = some p →
        (∀ ty, (E.upd (st.ep * 4096 + i) fun _ => none).ok (st.tb.sets (freezes st.tb (ownKeys (evalS st.sl v)) ++ [(key, some (.map kt vt (mput (eqK kt) es a' b') false))])) ty p.1) ∧ p.1 < ({ w with heap := w.heap.setIfInBounds b (.map nes nclock) } : World).heap.size ∧
        ∀ o v, w.cell? ⟨p.1, o, none⟩ = some v → ({ w with heap := w.heap.setIfInBounds b (.map nes nclock) } : World).cell? ⟨p.1, o, none⟩ = some v := by
      intro j hj e q hje hjq
      have hjk : j ≠ key := fun h => hnk (by rw [← h]; exact hj)
      have hqb : q.1 ≠ b := fun hqb => hjk (hR.inj j key q _ e _ hjq hκ hje he hqb)
      have hlt := (hR.ent j e hje).lt hjq
      refine ⟨frozen_ok (E' := E.upd (st.ep * 4096 + i) fun _ => none) hR (e' := e.freeze) (t := st.ep * 4096 + i) rfl (fun k hk => upd_old hk) ?_ ?_ ((hR.keyT j e hje).notFresh hi hd) hje hjq
        (by rw [hgone j hjk]; exact freezes_hit hje hj) (freeze_fz e), by simpa using hlt, fun o v hv => by rw [cell_same (hblk _ hqb)]; exact hv⟩
      · intro m' e' hm' hmt
        by_cases hmk : m' = key
        · exact ⟨_, by rw [hmk]; exact he⟩
        · rw [hgone m' hmk] at hm'
          rcases freezes_get st.tb (ownKeys (evalS st.sl v)) m' with h | ⟨e1, h1, _, _⟩
          · rw [h] at hm'; exact ⟨e', hm'⟩
          · exact ⟨e1, h1⟩
      · intro m' e' q' hm' hmt hq'
        rw [upd_new hmt] at hq'; cases hq'
    unfold RtV
    rw [← hc3]
    unfold RelV at hv
    cases hag : (evalS st.sl v).isAgg with
    | true =>
      rw [if_pos hag] at hv
      obtain ⟨cs, h1, h2⟩ := hv
      rw [if_pos rfl]
      exact ⟨cs, h1, lower_rt hR.bufs M.ok M.cell hfrz h2 hlowv⟩
    | false =>
      rw [if_neg (by simp [hag])] at hv
      simp only [Bool.false_eq_true, if_false]
      exact lower_rt hR.bufs M.ok M.cell hfrz hv hlowv
end
end Go.Ab
